/- short; a record in a box. -/
import Derived.Test.YtljfmcgeiceagaaRecP
import Derived.Test.YtljfmcgeiceagaaRecChk
namespace Go.Proofs.Ytljfmcgeiceagaa
open Go Go.RowKit
set_option linter.unusedVariables false
set_option linter.unusedSimpArgs false

theorem Wrote.to' {base g : Nat} {v : Value} {T : TypeId} {xs zs : List Nat} {W W' : World} {e : Ending} (hw : Wrote base W T g v zs e W') (h : Wr base W T g v xs) : ∃ v', e = .returned (.tuple #[]) ∧ Wr base W' T g v' zs ∧ Below base W W' := by
  obtain ⟨v', he, h1, h2, h3⟩ := hw
  exact ⟨v', he, h1, h2.below h.gb (fun q hq => (h.own.lt q hq).1) (Nat.le_trans h.gb (Nat.le_of_lt h.lt))⟩
/-- A record in block g. -/
def RBox (W : World) (g : Nat) (x : Rc) : Prop := W.heap[g]? = some (.cells #[.int .i64 x.k, .int .i64 x.o, .int .i64 x.t, .int .i64 x.p, .int .i64 x.s, .string x.key, .string x.val] 62 (0, 0))
theorem RBox.new (w : World) (x : Rc) : RBox (w.alloc (.cells #[.int .i64 x.k, .int .i64 x.o, .int .i64 x.t, .int .i64 x.p, .int .i64 x.s, .string x.key, .string x.val] 62)) w.heap.size x := heap_alloc_new w _
theorem RBox.below {W W' : World} {g B : Nat} {x : Rc} (h : RBox W g x) (hb : Below B W W') (hg : g < B) : RBox W' g x := (hb.block g hg).trans h
theorem RBox.facts {W : World} {g : Nat} {x : Rc} (h : RBox W g x) : W.cell? ⟨g, 0, none⟩ = some (.int .i64 x.k) ∧ W.cell? ⟨g, 1, none⟩ = some (.int .i64 x.o) ∧ W.cell? ⟨g, 2, none⟩ = some (.int .i64 x.t) ∧ W.cell? ⟨g, 3, none⟩ = some (.int .i64 x.p) ∧ W.cell? ⟨g, 4, none⟩ = some (.int .i64 x.s) ∧ W.cell? ⟨g, 5, none⟩ = some (.string x.key) ∧ W.cell? ⟨g, 6, none⟩ = some (.string x.val) := by
  unfold RBox at h
  refine ⟨?_, ?_, ?_, ?_, ?_, ?_, ?_⟩ <;> simp [World.cell?, h]
theorem rd_row8 {w : World} {g : Nat} {e : TypeId} {s : ByteArray} {zs : List Value} (h : Row w g e (b8 (sb s) ++ zs)) : Rd w (some ⟨g, 0, none⟩) (b8 (sb s)) := by
  have := h.rd.take_ s.size
  rwa [List.take_left' (by rw [b8_length, sb_length])] at this

def Short (w : World) (q : List Nat × Bool) (e : Ending) (w' : World) : Prop :=
  ∃ A c, e = .returned (.tuple #[.slice A q.1.length c, .bool q.2]) ∧ Rd w' A (b8 q.1) ∧ Below w.heap.size w w'
theorem short_mk {w W : World} {ys : List Nat} {b : Bool} {A : Option Addr} {n c : Nat} (hn : n = ys.length) (hr : Rd W A (b8 ys)) (hb : Below w.heap.size w W) : Short w (ys, b) (.returned (.tuple #[.slice A n c, .bool b])) W := by
  subst hn
  exact ⟨A, c, rfl, hr, hb⟩

set_option maxHeartbeats 1000000 in
theorem short_is (s : ByteArray) (q : List Nat × Bool) (hq : shrt (sb s) = q) (w : World) (hs : s.size ≤ 140737488351232) :
    Calls Try.prog 88 #[.string s] w (Short w q) := by
  have PE := Lib.hid (fun A c W (hr : Rd W A (b8 (sb s))) (hc : s.size ≤ c) => encode_is A s.size c (sb s) W hr (sb_length s) (sb_by s) hs hc)
  have HQ : Hid ((if (enc (sb s)).2 = 0 ∧ (enc (sb s)).1.length < s.size then ((enc (sb s)).1, true) else (sb s, false)) = q) := Lib.hid (by rw [← hq]; unfold shrt; rw [sb_length])
  obtain ⟨p, hp⟩ : ∃ p, p = enc (sb s) := ⟨_, rfl⟩
  rw [← hp] at PE HQ
  clear hq hp
  obtain ⟨ys, z⟩ := p
  simp only at HQ
  go_enter Try.func88, Try.ntmps88
  go_wp2_with (refine wpList_bytes _ rfl (.tmp 7) 9 25 5 rfl Try.underlying9 Try.underlying25 Try.underlying5 s rfl ?_; intro c2 w2 zs hrow hcm hbel hzl; have HR := Lib.hid (rd_row8 hrow); have HBL := Lib.hid hbel; clear hrow hzl hbel)
  refine (PE.out _ c2 w2 HR.out hcm).mono ?_
  rintro e w3 ⟨A3, c3, rfl, ho3, hb3⟩
  simp only at ho3 ⊢
  have HO := Lib.hid (rd_own ho3)
  have HB3 := Lib.hid (HBL.out.trans (hb3.mono HBL.out.size))
  clear ho3 hb3
  by_cases h : z = 0 ∧ ys.length < s.size
  · obtain ⟨rfl, hl⟩ := h
    have HQ2 := HQ.out
    rw [if_pos ⟨rfl, hl⟩] at HQ2
    subst HQ2
    have hl' : (ys.length : Int) < (s.size : Int) := by omega
    clear HQ
    go_wp2_with fail
    go_ret2
    exact short_mk rfl HO.out HB3.out
  · have HQ2 := HQ.out
    rw [if_neg h] at HQ2
    subst HQ2
    clear HQ
    by_cases hz : z = 0
    · have hl' : ¬ (ys.length : Int) < (s.size : Int) := by omega
      subst hz
      clear h
      go_wp2_with (refine wpList_bytes _ rfl (.tmp 22) 9 25 5 rfl Try.underlying9 Try.underlying25 Try.underlying5 s rfl ?_; intro c4 w4 zs4 hrow4 hcm4 hbel4 hzl4; have HR4 := Lib.hid (rd_row8 hrow4); have HB4 := Lib.hid (HB3.out.trans (hbel4.mono HB3.out.size)); clear hrow4 hzl4 hbel4)
      go_ret2
      exact short_mk (sb_length s).symm HR4.out HB4.out
    · have hz' : (z == 0) = false := by rw [beq_eq_false_iff_ne]; exact hz
      clear h
      go_wp2_with (refine wpList_bytes _ rfl (.tmp 22) 9 25 5 rfl Try.underlying9 Try.underlying25 Try.underlying5 s rfl ?_; intro c4 w4 zs4 hrow4 hcm4 hbel4 hzl4; have HR4 := Lib.hid (rd_row8 hrow4); have HB4 := Lib.hid (HB3.out.trans (hbel4.mono HB3.out.size)); clear hrow4 hzl4 hbel4)
      go_ret2
      exact short_mk (sb_length s).symm HR4.out HB4.out
end Go.Proofs.Ytljfmcgeiceagaa
