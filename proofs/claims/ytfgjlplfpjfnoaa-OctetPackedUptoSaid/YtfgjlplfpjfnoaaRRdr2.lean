/- The document's readers: Raw, and numbers of four and eight bytes. (Printed by gen_rrdr2.py.) -/
import Derived.Test.YtfgjlplfpjfnoaaRRdr
namespace Go.Proofs.Ytfgjlplfpjfnoaa
open Go Go.RowKit
set_option linter.unusedVariables false
set_option linter.unusedSimpArgs false
set_option linter.unusedSectionVars false

/-- A reader, from world w on. -/
structure OneR (base : Nat) (w W : World) (g : Nat) (v : Value) (s : Rs) : Prop where
  r : Rdr base W 113 Rs.rcells g v s
  k : Below w.heap.size w W
theorem OneR.mk0 {base : Nat} {w : World} {g : Nat} {v : Value} {s : Rs} (h : Rdr base w 113 Rs.rcells g v s) : OneR base w w g v s := ⟨h, Below.refl _ _⟩
theorem OneR.drew {base : Nat} {w W : World} {g : Nat} {v : Value} {s : Rs} (h : OneR base w W g v s) : OneR base w W.drew g v s := ⟨h.r.below (Below.refl _ _).drew, h.k.drew⟩
theorem OneR.more {base : Nat} {w W W' : World} {g : Nat} {v : Value} {s : Rs} (h : OneR base w W g v s) (hb : Below W.heap.size W W') : OneR base w W' g v s := ⟨h.r.below hb, h.k.trans (hb.mono h.k.size)⟩
theorem OneR.alloc {base : Nat} {w W : World} {g : Nat} {v : Value} {s : Rs} (h : OneR base w W g v s) (o : Obj) : OneR base w (W.alloc o) g v s := h.more ((Below.refl _ _).alloc (Nat.le_refl _) o)
theorem OneR.grown {base : Nat} {w W W' : World} {g : Nat} {v : Value} {s : Rs} {r : Option Nat} (h : OneR base w W g v s) (hg : W.grownBy W' r) (hr : ∀ q, r = some q → w.heap.size ≤ q) (h0 : Rdr base w 113 Rs.rcells g v s) : OneR base w W' g v s :=
  ⟨h.r.keptS (S := fun q => w.heap.size ≤ q) (KeptS.of_grown hg hr) (by have := h0.lt; omega) (fun q hq => by have := (h0.own.lt q hq).2; omega), h.k.trans (below_of_grown hg h.k.size hr)⟩
theorem OneR.s {base : Nat} {w W : World} {g : Nat} {v : Value} {s : Rs} (h : OneR base w W g v s) : W.cell? ⟨g, 0, none⟩ = some v ∧ W.cell? ⟨g, 1, none⟩ = some (.int .i64 (s.p : Int)) ∧ OneR base w W g v s := ⟨h.r.rf.c0, h.r.rf.c1, h⟩
theorem OneR.ofS {base : Nat} {w W : World} {g : Nat} {v : Value} {s : Rs} (h : W.cell? ⟨g, 0, none⟩ = some v ∧ W.cell? ⟨g, 1, none⟩ = some (.int .i64 (s.p : Int)) ∧ OneR base w W g v s) : OneR base w W g v s := h.2.2
theorem OneR.turned {base : Nat} {w W : World} {g : Nat} {v : Value} {s : Rs} (h : OneR base w W g v s) : Turned base w 113 Rs.rcells g v s W := ⟨h.r, KeptS.of_below h.k _⟩
theorem Rdr.rmoved {base : Nat} {W : World} {g : Nat} {v : Value} {s : Rs} (h : Rdr base W 113 Rs.rcells g v s) (h0 : s.err = 0) {k : Nat} (hk : s.p + k ≤ s.bs.length) {x : Int} (hx : x = (s.p : Int) + (k : Int)) :
    Turned base W 113 Rs.rcells g v (s.go k) (W.setCell ⟨g, 1, none⟩ (.int .i64 x)) := by
  refine h.write (s' := s.go k) ?_ (kept1_set _ _ _ _) rfl (h.ok.go h0 hk)
  have := set1 (j := 1) (u := .int .i64 x) h.cell
  have e : ((s.p + k : Nat) : Int) = x := by omega
  simpa [Rs.rcells, Rs.go, e] using this


set_option maxHeartbeats 400000 in
set_option maxRecDepth 100000 in
theorem rraw_nil (base g : Nat) (s : Rs) (k : Nat) (w : World) (h : Rdr base w 113 Rs.rcells g (.slice none 0 0) s) (h0 : s.err = 0) (hk : k ≤ s.rest) (hbs : s.bs = []) (hp0 : s.p = 0) :
    Calls Try.prog 102 #[.pointer (some ⟨g, 0, none⟩), .int .i64 (k : Int)] w (Rawed base w 113 Rs.rcells g (.slice none 0 0) ((s.bs.drop s.p).take k) (s.go k)) := by
  obtain ⟨c0, c1, c2, c3, f1, f2, f3⟩ := h.rf
  have hlt := h.lt
  have hle := h.ok.le
  have hsz := h.ok.sz
  rw [h0] at c2
  have HH := Lib.hid h
  have START := Lib.hid (OneR.mk0 h)
  have hpk : s.p + k ≤ s.bs.length := by unfold Rs.rest at hk; omega
  have HPK := Lib.hid hpk
  have hlen : ((s.bs.drop s.p).take k).length = k := by simp; omega
  have HL := Lib.hid hlen
  have hn0 : s.bs.length = 0 := by rw [hbs]; rfl
  have hk0 : k = 0 := by omega
  subst hk0
  have e0 : (s.bs.drop s.p).take 0 = [] := by simp
  rw [hp0] at c1
  have HP := Lib.hid hp0
  have hw : IntKind.i64.wrap 0 = 0 := by decide
  have hd0 : Rd w none (b8 ((s.bs.drop s.p).take 0)) := by rw [e0]; exact Rd.nil_ _ _
  have HRD := Lib.hid hd0
  obtain ⟨bs, hbs'⟩ : ∃ bs, bs = ((s.bs.drop s.p).take 0) := ⟨_, rfl⟩
  rw [← hbs'] at HRD HL hlen ⊢
  have hkr : (0 : Int) ≤ 140737488351232 := by omega
  clear h hlen hbs'
  go_enter Try.func102, Try.ntmps102
  go_wp2
  go_quiet (fail)
  go_wp2
  have ST2 := Lib.hid (START.out.more (below_drewN (Below.refl _ _) nq))
  have ST3 := Lib.hid (START.out.more (below_drewN (Below.refl _ _) (nq + 1)))
  have OW := Lib.hid (own_lit (w.drewN (nq + 1)) w.heap.size [] 5 0 (Nat.le_refl _) (by decide) rfl)
  have RD := Lib.hid (HRD.out.below ((below_drewN (Below.refl w.heap.size w) (nq + 1)).alloc (Nat.le_refl _) (.cells #[] 5)))
  go_region_held3 (fun W => W.cell? ⟨g, 0, none⟩ = some (.slice none 0 0) ∧ W.cell? ⟨g, 1, none⟩ = some (.int .i64 (0 : Nat)) ∧ OneR base w W g (.slice none 0 0) s)
    (first | assumption | (have hq := OneR.s ST2.out; rw [HP.out] at hq; exact hq) | (have hq := OneR.s ST2.out.drew; rw [HP.out] at hq; exact hq) | (have hq := OneR.s ST3.out; rw [HP.out] at hq; exact hq) | (have hq := OneR.s (ST3.out.alloc (.cells #[] 5)); rw [HP.out] at hq; exact hq) | (have hq := OneR.s hS9; rw [HP.out] at hq; exact hq))
    (first
      | (refine step_app8 _ rfl (.tmp 34) (.tmp 49) rfl w.heap.size (.slice (some ⟨w.heap.size, 0, none⟩) 0 0) 0 [] rfl OW.out none 0 _ bs rfl HL.out RD.out (by omega) (by simp) ?_; intro v9 w9 h1 h2 h3; (rw [Nat.zero_add] at h1); obtain ⟨A9, c9, rfl, _⟩ := own_shape h1; have HV := Lib.hid h1; have hS9 : OneR base w w9 g (.slice none 0 0) s := OneR.grown (ST3.out.alloc _) h2 (fun q hq => Nat.le_of_eq (Option.some.inj hq)) HH.out; have HS9 := Lib.hid hS9; clear h1 h2 h3))
  obtain ⟨_, d1, _, _, e1, _, _⟩ := HS9.out.r.rf
  rw [HP.out] at d1
  have hlt9 := HS9.out.r.lt
  go_wp2
  go_ret
  refine ⟨A9, c9, by rw [HL.out]; rfl, ?_, HS9.out.turned.then (HS9.out.r.rmoved h0 (k := 0) (by have := HPK.out; omega) (by have := HP.out; omega))⟩
  rw [HL.out]
  exact ownsRow_setCell_other HV.out (a := ⟨g, 1, none⟩) (fun e => by have := (HV.out.lt _ e).1; simp at this; omega) _

set_option maxHeartbeats 400000 in
set_option maxRecDepth 100000 in
theorem rraw_end (base g : Nat) (q n c : Nat) (s : Rs) (k : Nat) (w : World) (h : Rdr base w 113 Rs.rcells g (.slice (some ⟨q, 0, none⟩) n c) s) (h0 : s.err = 0) (hk : k ≤ s.rest) (hn : n = s.bs.length) (hnc : n ≤ c) (hcp : c = s.p) :
    Calls Try.prog 102 #[.pointer (some ⟨g, 0, none⟩), .int .i64 (k : Int)] w (Rawed base w 113 Rs.rcells g (.slice (some ⟨q, 0, none⟩) n c) ((s.bs.drop s.p).take k) (s.go k)) := by
  obtain ⟨c0, c1, c2, c3, f1, f2, f3⟩ := h.rf
  have hlt := h.lt
  have hle := h.ok.le
  have hsz := h.ok.sz
  rw [h0] at c2
  have HH := Lib.hid h
  have START := Lib.hid (OneR.mk0 h)
  have hpk : s.p + k ≤ s.bs.length := by unfold Rs.rest at hk; omega
  have HPK := Lib.hid hpk
  have hlen : ((s.bs.drop s.p).take k).length = k := by simp; omega
  have HL := Lib.hid hlen
  rw [← hn] at hle hsz hpk
  have hk0 : k = 0 := by omega
  subst hk0
  rw [show (((0 : Nat)) : Int) = 0 from rfl]
  have e0 : (s.bs.drop s.p).take 0 = [] := by simp
  have hpn : s.p = n := by omega
  rw [hpn] at c1
  have hcn : c = n := by omega
  subst hcn
  have HP := Lib.hid hpn
  clear hcp hpn hn
  have hw : IntKind.i64.wrap (c : Int) = (c : Int) := by rw [IntKind.wrap_i64]; omega
  have hd0 : Rd w (some ⟨q, 0, none⟩) (b8 ((s.bs.drop s.p).take 0)) := by rw [e0]; exact Rd.nil_ _ _
  have HRD := Lib.hid hd0
  obtain ⟨bs, hbs'⟩ : ∃ bs, bs = ((s.bs.drop s.p).take 0) := ⟨_, rfl⟩
  rw [← hbs'] at HRD HL hlen ⊢
  have hkr : (0 : Int) ≤ 140737488351232 := by omega
  clear h hlen hbs'
  go_enter Try.func102, Try.ntmps102
  go_wp2
  go_quiet (fail)
  go_wp2
  have ST2 := Lib.hid (START.out.more (below_drewN (Below.refl _ _) nq))
  have ST3 := Lib.hid (START.out.more (below_drewN (Below.refl _ _) (nq + 1)))
  have OW := Lib.hid (own_lit (w.drewN (nq + 1)) w.heap.size [] 5 0 (Nat.le_refl _) (by decide) rfl)
  have RD := Lib.hid (HRD.out.below ((below_drewN (Below.refl w.heap.size w) (nq + 1)).alloc (Nat.le_refl _) (.cells #[] 5)))
  go_region_held3 (fun W => W.cell? ⟨g, 0, none⟩ = some (.slice (some ⟨q, 0, none⟩) c c) ∧ W.cell? ⟨g, 1, none⟩ = some (.int .i64 (c : Nat)) ∧ OneR base w W g (.slice (some ⟨q, 0, none⟩) c c) s)
    (first | assumption | (have hq := OneR.s ST2.out; rw [HP.out] at hq; exact hq) | (have hq := OneR.s ST2.out.drew; rw [HP.out] at hq; exact hq) | (have hq := OneR.s ST3.out; rw [HP.out] at hq; exact hq) | (have hq := OneR.s (ST3.out.alloc (.cells #[] 5)); rw [HP.out] at hq; exact hq) | (have hq := OneR.s hS9; rw [HP.out] at hq; exact hq))
    (first
      | (refine step_app8 _ rfl (.tmp 34) (.tmp 49) rfl w.heap.size (.slice (some ⟨w.heap.size, 0, none⟩) 0 0) 0 [] rfl OW.out (some ⟨q, 0, none⟩) 0 _ bs rfl HL.out RD.out (by omega) (by simp) ?_; intro v9 w9 h1 h2 h3; (rw [Nat.zero_add] at h1); obtain ⟨A9, c9, rfl, _⟩ := own_shape h1; have HV := Lib.hid h1; have hS9 : OneR base w w9 g (.slice (some ⟨q, 0, none⟩) c c) s := OneR.grown (ST3.out.alloc _) h2 (fun q hq => Nat.le_of_eq (Option.some.inj hq)) HH.out; have HS9 := Lib.hid hS9; clear h1 h2 h3))
  obtain ⟨_, d1, _, _, e1, _, _⟩ := HS9.out.r.rf
  rw [HP.out] at d1
  have hlt9 := HS9.out.r.lt
  go_wp2
  go_ret
  refine ⟨A9, c9, by rw [HL.out]; rfl, ?_, HS9.out.turned.then (HS9.out.r.rmoved h0 (k := 0) (by have := HPK.out; omega) (by have := HP.out; omega))⟩
  rw [HL.out]
  exact ownsRow_setCell_other HV.out (a := ⟨g, 1, none⟩) (fun e => by have := (HV.out.lt _ e).1; simp at this; omega) _

set_option maxHeartbeats 400000 in
set_option maxRecDepth 100000 in
theorem rraw_in (base g : Nat) (q n c : Nat) (s : Rs) (k : Nat) (w : World) (h : Rdr base w 113 Rs.rcells g (.slice (some ⟨q, 0, none⟩) n c) s) (h0 : s.err = 0) (hk : k ≤ s.rest) (hn : n = s.bs.length) (hnc : n ≤ c) (hcp : s.p < c) :
    Calls Try.prog 102 #[.pointer (some ⟨g, 0, none⟩), .int .i64 (k : Int)] w (Rawed base w 113 Rs.rcells g (.slice (some ⟨q, 0, none⟩) n c) ((s.bs.drop s.p).take k) (s.go k)) := by
  obtain ⟨c0, c1, c2, c3, f1, f2, f3⟩ := h.rf
  have hlt := h.lt
  have hle := h.ok.le
  have hsz := h.ok.sz
  rw [h0] at c2
  have HH := Lib.hid h
  have START := Lib.hid (OneR.mk0 h)
  have hpk : s.p + k ≤ s.bs.length := by unfold Rs.rest at hk; omega
  have HPK := Lib.hid hpk
  have hlen : ((s.bs.drop s.p).take k).length = k := by simp; omega
  have HL := Lib.hid hlen
  rw [← hn] at hle hsz hpk
  have h9 := h.own
  rw [← hn] at h9
  have HRD := Lib.hid (rd_part (p := s.p) (k := k) (A := some ⟨q, 0, none⟩) (rd_own h9) rfl)
  obtain ⟨pp, hpp⟩ : ∃ pp, pp = s.p := ⟨_, rfl⟩
  have HP := Lib.hid hpp.symm
  rw [← hpp] at c1 hle hpk hcp HRD ⊢
  rw [← hpp] at HL hlen
  have hpc : pp + k ≤ c := by omega
  have hne : ¬ c = pp := by omega
  have hw : IntKind.i64.wrap ((pp : Int) + (k : Int)) = ((pp + k : Nat) : Int) := by rw [IntKind.wrap_i64]; omega
  have ht : ((pp : Int) + (k : Int)).toNat = pp + k := by omega
  have i1 : (0 : Int) ≤ (pp : Int) + (k : Int) := by omega
  have i2 : (pp : Int) + (k : Int) ≤ (c : Int) := by omega
  clear h9 hpp hn
  obtain ⟨bs, hbs'⟩ : ∃ bs, bs = ((s.bs.drop pp).take k) := ⟨_, rfl⟩
  rw [← hbs'] at HRD HL hlen ⊢
  have hkr : (k : Int) ≤ 140737488351232 := by omega
  clear h hlen hbs'
  go_enter Try.func102, Try.ntmps102
  go_wp2
  go_quiet (fail)
  go_wp2
  have ST2 := Lib.hid (START.out.more (below_drewN (Below.refl _ _) nq))
  have ST3 := Lib.hid (START.out.more (below_drewN (Below.refl _ _) (nq + 1)))
  have OW := Lib.hid (own_lit (w.drewN (nq + 1)) w.heap.size [] 5 0 (Nat.le_refl _) (by decide) rfl)
  have RD := Lib.hid (HRD.out.below ((below_drewN (Below.refl w.heap.size w) (nq + 1)).alloc (Nat.le_refl _) (.cells #[] 5)))
  go_region_held3 (fun W => W.cell? ⟨g, 0, none⟩ = some (.slice (some ⟨q, 0, none⟩) n c) ∧ W.cell? ⟨g, 1, none⟩ = some (.int .i64 (pp : Nat)) ∧ OneR base w W g (.slice (some ⟨q, 0, none⟩) n c) s)
    (first | assumption | (have hq := OneR.s ST2.out; rw [HP.out] at hq; exact hq) | (have hq := OneR.s ST2.out.drew; rw [HP.out] at hq; exact hq) | (have hq := OneR.s ST3.out; rw [HP.out] at hq; exact hq) | (have hq := OneR.s (ST3.out.alloc (.cells #[] 5)); rw [HP.out] at hq; exact hq) | (have hq := OneR.s hS9; rw [HP.out] at hq; exact hq))
    (first
      | (refine step_app8 _ rfl (.tmp 34) (.tmp 49) rfl w.heap.size (.slice (some ⟨w.heap.size, 0, none⟩) 0 0) 0 [] rfl OW.out (some ⟨q, pp, none⟩) k _ bs rfl HL.out RD.out (by omega) (by simp) ?_; intro v9 w9 h1 h2 h3; (rw [Nat.zero_add] at h1); obtain ⟨A9, c9, rfl, _⟩ := own_shape h1; have HV := Lib.hid h1; have hS9 : OneR base w w9 g (.slice (some ⟨q, 0, none⟩) n c) s := OneR.grown (ST3.out.alloc _) h2 (fun q hq => Nat.le_of_eq (Option.some.inj hq)) HH.out; have HS9 := Lib.hid hS9; clear h1 h2 h3))
  obtain ⟨_, d1, _, _, e1, _, _⟩ := HS9.out.r.rf
  rw [HP.out] at d1
  have hlt9 := HS9.out.r.lt
  go_wp2
  go_ret
  refine ⟨A9, c9, by rw [HL.out]; rfl, ?_, HS9.out.turned.then (HS9.out.r.rmoved h0 (k := k) (by have := HPK.out; omega) (by have := HP.out; omega))⟩
  rw [HL.out]
  exact ownsRow_setCell_other HV.out (a := ⟨g, 1, none⟩) (fun e => by have := (HV.out.lt _ e).1; simp at this; omega) _
end Go.Proofs.Ytfgjlplfpjfnoaa
