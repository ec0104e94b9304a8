/- One step of readers. (Printed by gen_reads.py.) -/
import Derived.Test.YtfgjlplfpjfnoaaRRdr5
import Derived.Test.YtfgjlplfpjfnoaaOctSame
import Derived.Test.YtfgjlplfpjfnoaaOctMem
namespace Go.Proofs.Ytfgjlplfpjfnoaa
open Go Go.RowKit
set_option linter.unusedVariables false
set_option linter.unusedSimpArgs false

/-- Two readers. -/
structure TwoRd (base : Nat) (W : World) (g1 : Nat) (v1 : Value) (s1 : Rs) (g2 : Nat) (v2 : Value) (s2 : Rs) : Prop where
  a : Rdr base W 78 Rs.cells g1 v1 s1
  b : Rdr base W 113 Rs.rcells g2 v2 s2
  ne : g1 ≠ g2
  n12 : v1.ownBlock ≠ some g2
  n21 : v2.ownBlock ≠ some g1
def RFoot (g1 g2 : Nat) (q : Nat) : Prop := q = g1 ∨ q = g2
/-- On the way, from world w0. -/
structure OnR (base : Nat) (w0 W : World) (g1 : Nat) (v1 : Value) (s1 : Rs) (g2 : Nat) (v2 : Value) (s2 : Rs) : Prop where
  two : TwoRd base W g1 v1 s1 g2 v2 s2
  kept : KeptS w0 W (RFoot g1 g2)
section
variable {base : Nat} {w0 W W' : World} {g1 g2 : Nat} {v1 v2 : Value} {s1 s2 s' : Rs}
theorem TwoRd.keptS {S : Nat → Prop} (h : TwoRd base W g1 v1 s1 g2 v2 s2) (hk : KeptS W W' S) (h1 : ¬ S g1) (h2 : ¬ S g2) (o1 : ∀ q, v1.ownBlock = some q → ¬ S q) (o2 : ∀ q, v2.ownBlock = some q → ¬ S q) : TwoRd base W' g1 v1 s1 g2 v2 s2 :=
  ⟨h.a.keptS hk h1 o1, h.b.keptS hk h2 o2, h.ne, h.n12, h.n21⟩
theorem TwoRd.below (h : TwoRd base W g1 v1 s1 g2 v2 s2) (hb : Below W.heap.size W W') : TwoRd base W' g1 v1 s1 g2 v2 s2 := ⟨h.a.below hb, h.b.below hb, h.ne, h.n12, h.n21⟩
theorem TwoRd.on (h : TwoRd base W g1 v1 s1 g2 v2 s2) : OnR base W W g1 v1 s1 g2 v2 s2 := ⟨h, KeptS.refl _ _⟩
theorem OnR.below (h : OnR base w0 W g1 v1 s1 g2 v2 s2) (hb : Below W.heap.size W W') : OnR base w0 W' g1 v1 s1 g2 v2 s2 := ⟨h.two.below hb, h.kept.trans (KeptS.of_below hb (fun _ => False)) (fun _ h => h.elim)⟩
theorem OnR.left (h : OnR base w0 W g1 v1 s1 g2 v2 s2) (ht : Turned base W 78 Rs.cells g1 v1 s' W') : OnR base w0 W' g1 v1 s' g2 v2 s2 :=
  ⟨⟨ht.rd, h.two.b.keptS ht.kept (fun e => h.two.ne e.symm) (fun q hq e => h.two.n21 (e ▸ hq)), h.two.ne, h.two.n12, h.two.n21⟩, h.kept.trans ht.kept (fun q hq => .inl (.inl hq))⟩
theorem OnR.right (h : OnR base w0 W g1 v1 s1 g2 v2 s2) (ht : Turned base W 113 Rs.rcells g2 v2 s' W') : OnR base w0 W' g1 v1 s1 g2 v2 s' :=
  ⟨⟨h.two.a.keptS ht.kept h.two.ne (fun q hq e => h.two.n12 (e ▸ hq)), ht.rd, h.two.ne, h.two.n12, h.two.n21⟩, h.kept.trans ht.kept (fun q hq => .inl (.inr hq))⟩
/-- The step's block, all along. -/
theorem OnR.bx {w : World} {x : Stp} {a1 a2 : Rs} (h0 : TwoRd base w g1 v1 a1 g2 v2 a2) (h : OnR base (w.alloc (.cells #[.int .i64 x.k, .int .u64 (x.n : Int), .string x.s] 55)) W g1 v1 s1 g2 v2 s2) : Bx3 W w.heap.size x := by
  refine (h.kept.block _ (by simp) (fun hf => ?_)).trans (Bx3.new w x)
  rcases hf with hf | hf
  · have := h0.a.lt; omega
  · have := h0.b.lt; omega
theorem OnR.then {w1 : World} {a1 a2 : Rs} (h : OnR base w0 w1 g1 v1 a1 g2 v2 a2) (h' : OnR base w1 W g1 v1 s1 g2 v2 s2) : OnR base w0 W g1 v1 s1 g2 v2 s2 := ⟨h'.two, h.kept.trans h'.kept (fun q hq => .inl hq)⟩
theorem OnR.out {w : World} {o : Obj} {a1 a2 : Rs} (h0 : TwoRd base w g1 v1 a1 g2 v2 a2) (h : OnR base (w.alloc o) W g1 v1 s1 g2 v2 s2) : OnR base w W g1 v1 s1 g2 v2 s2 :=
  (h0.on.below ((Below.refl _ _).alloc (Nat.le_refl _) o)).then h
theorem KeptS.of_belowC {a b : World} {B : Nat} (h : Below B a b) : KeptS a b (fun k => B ≤ k) := ⟨h.os, h.tape, h.output, h.size, fun k _ hn => h.block k (by simp at hn; omega)⟩
theorem own_keptS {w w' : World} {S : Nat → Prop} {base' n size : Nat} {v : Value} {xs : List Value} {e : TypeId} (h : w.ownsRow base' e size v n xs) (hk : KeptS w w' S) (hv : ∀ q, v.ownBlock = some q → ¬ S q) : w'.ownsRow base' e size v n xs := by
  refine ⟨h.1, ?_⟩
  rcases h.2 with hn | ⟨q, cap, cur, e1, hb, hh, rest⟩
  · exact .inl hn
  · exact .inr ⟨q, cap, cur, e1, hb, (hk.block q (Array.getElem?_eq_some_iff.1 hh).1 (hv q (by rw [e1]; rfl))).trans hh, rest⟩
/-- New memory written over. -/
theorem OnR.old {a1 a2 : Rs} (h0 : TwoRd base w0 g1 v1 a1 g2 v2 a2) (h : OnR base w0 W g1 v1 s1 g2 v2 s2) (hb : Below w0.heap.size W W') : OnR base w0 W' g1 v1 s1 g2 v2 s2 := by
  have hk := KeptS.of_belowC hb
  refine ⟨h.two.keptS hk (by have := h0.a.lt; omega) (by have := h0.b.lt; omega) (fun q hq => ?_) (fun q hq => ?_), h.kept.trans hk (fun q hq => .inr hq)⟩
  · have := (h0.a.own.lt q hq).2; omega
  · have := (h0.b.own.lt q hq).2; omega
end

/-- Where a reader stands behind a step. -/
def Rs.step (s : Rs) (x : Stp) : Rs :=
  if x.k = 0 then (s.take 1).2
  else if x.k = 1 then s.num.2
  else if x.k = 2 then s.num.2
  else if x.k = 3 then (s.take 4).2
  else if x.k = 4 then (s.take 8).2
  else if x.k = 5 then (s.text (sg x.n)).2
  else if x.k = 10 then (s.take (sg x.n)).2
  else if x.k = 12 then s.fail (sg x.n)
  else s


set_option maxHeartbeats 400000 in
set_option maxRecDepth 100000 in
theorem reads_two0 (base g1 g2 : Nat) (v1 v2 : Value) (s : Rs) (n : Nat) (st : ByteArray) (w : World) (h : TwoRd base w g1 v1 s g2 v2 s) (hn : n < 18446744073709551616) :
    Calls Try.prog 55 #[.pointer (some ⟨g1, 0, none⟩), .pointer (some ⟨g2, 0, none⟩), (Stp.mk 0 n st).val] w fun e w' => e = .returned (.bool true) ∧ OnR base w w' g1 v1 (s.step ⟨0, n, st⟩) g2 v2 (s.step ⟨0, n, st⟩) := by
  have H0 := Lib.hid h
  have HS0 := Lib.hid (TwoRd.on (h.below ((Below.refl _ _).alloc (Nat.le_refl _) (.cells #[.int .i64 0, .int .u64 (n : Int), .string st] 55))))
  clear h
  unfold Stp.val
  simp only
  go_enter Try.func55, Try.ntmps55
  go_wp2_with (first
    | (go_at_call 89; refine (byte_r base g1 v1 s _ HS0.out.two.a).mono ?_; rintro r w1 ⟨rfl, ht⟩; have HS1 := Lib.hid (HS0.out.left ht); clear ht)
    | (go_at_call 90; refine (rbyte_r base g2 v2 s _ HS1.out.two.b).mono ?_; rintro r w2 ⟨rfl, ht⟩; have HS2 := Lib.hid (HS1.out.right ht); clear ht))
  go_ret
  have HF := OnR.out H0.out HS2.out
  exact ⟨by simp, by simpa [Rs.step] using HF⟩

set_option maxHeartbeats 400000 in
set_option maxRecDepth 100000 in
theorem reads_two1 (base g1 g2 : Nat) (v1 v2 : Value) (s : Rs) (n : Nat) (st : ByteArray) (w : World) (h : TwoRd base w g1 v1 s g2 v2 s) (hn : n < 18446744073709551616) :
    Calls Try.prog 55 #[.pointer (some ⟨g1, 0, none⟩), .pointer (some ⟨g2, 0, none⟩), (Stp.mk 1 n st).val] w fun e w' => e = .returned (.bool true) ∧ OnR base w w' g1 v1 (s.step ⟨1, n, st⟩) g2 v2 (s.step ⟨1, n, st⟩) := by
  have H0 := Lib.hid h
  have HS0 := Lib.hid (TwoRd.on (h.below ((Below.refl _ _).alloc (Nat.le_refl _) (.cells #[.int .i64 1, .int .u64 (n : Int), .string st] 55))))
  clear h
  unfold Stp.val
  simp only
  go_enter Try.func55, Try.ntmps55
  go_wp2_with (first
    | (go_at_call 91; refine (uv_r base g1 v1 s _ HS0.out.two.a).mono ?_; rintro r w1 ⟨rfl, ht⟩; have HS1 := Lib.hid (HS0.out.left ht); clear ht)
    | (go_at_call 92; refine (ruv_r base g2 v2 s _ HS1.out.two.b).mono ?_; rintro r w2 ⟨rfl, ht⟩; have HS2 := Lib.hid (HS1.out.right ht); clear ht))
  go_ret
  have HF := OnR.out H0.out HS2.out
  exact ⟨by simp, by simpa [Rs.step] using HF⟩

set_option maxHeartbeats 400000 in
set_option maxRecDepth 100000 in
theorem reads_two2 (base g1 g2 : Nat) (v1 v2 : Value) (s : Rs) (n : Nat) (st : ByteArray) (w : World) (h : TwoRd base w g1 v1 s g2 v2 s) (hn : n < 18446744073709551616) :
    Calls Try.prog 55 #[.pointer (some ⟨g1, 0, none⟩), .pointer (some ⟨g2, 0, none⟩), (Stp.mk 2 n st).val] w fun e w' => e = .returned (.bool true) ∧ OnR base w w' g1 v1 (s.step ⟨2, n, st⟩) g2 v2 (s.step ⟨2, n, st⟩) := by
  have H0 := Lib.hid h
  have HS0 := Lib.hid (TwoRd.on (h.below ((Below.refl _ _).alloc (Nat.le_refl _) (.cells #[.int .i64 2, .int .u64 (n : Int), .string st] 55))))
  clear h
  unfold Stp.val
  simp only
  go_enter Try.func55, Try.ntmps55
  go_wp2_with (first
    | (go_at_call 93; refine (varint_r base g1 v1 s _ HS0.out.two.a).mono ?_; rintro r w1 ⟨rfl, ht⟩; have HS1 := Lib.hid (HS0.out.left ht); clear ht)
    | (go_at_call 94; refine (rvarint_r base g2 v2 s _ HS1.out.two.b).mono ?_; rintro r w2 ⟨rfl, ht⟩; have HS2 := Lib.hid (HS1.out.right ht); clear ht))
  go_ret
  have HF := OnR.out H0.out HS2.out
  exact ⟨by simp, by simpa [Rs.step] using HF⟩

set_option maxHeartbeats 400000 in
set_option maxRecDepth 100000 in
theorem reads_two3 (base g1 g2 : Nat) (v1 v2 : Value) (s : Rs) (n : Nat) (st : ByteArray) (w : World) (h : TwoRd base w g1 v1 s g2 v2 s) (hn : n < 18446744073709551616) :
    Calls Try.prog 55 #[.pointer (some ⟨g1, 0, none⟩), .pointer (some ⟨g2, 0, none⟩), (Stp.mk 3 n st).val] w fun e w' => e = .returned (.bool true) ∧ OnR base w w' g1 v1 (s.step ⟨3, n, st⟩) g2 v2 (s.step ⟨3, n, st⟩) := by
  have H0 := Lib.hid h
  have HS0 := Lib.hid (TwoRd.on (h.below ((Below.refl _ _).alloc (Nat.le_refl _) (.cells #[.int .i64 3, .int .u64 (n : Int), .string st] 55))))
  clear h
  unfold Stp.val
  simp only
  go_enter Try.func55, Try.ntmps55
  go_wp2_with (first
    | (go_at_call 95; refine (u32_r base g1 v1 s _ HS0.out.two.a).mono ?_; rintro r w1 ⟨rfl, ht⟩; have HS1 := Lib.hid (HS0.out.left ht); clear ht)
    | (go_at_call 96; refine (ru32_r base g2 v2 s _ HS1.out.two.b).mono ?_; rintro r w2 ⟨rfl, ht⟩; have HS2 := Lib.hid (HS1.out.right ht); clear ht))
  go_ret
  have HF := OnR.out H0.out HS2.out
  exact ⟨by simp, by simpa [Rs.step] using HF⟩

set_option maxHeartbeats 400000 in
set_option maxRecDepth 100000 in
theorem reads_two4 (base g1 g2 : Nat) (v1 v2 : Value) (s : Rs) (n : Nat) (st : ByteArray) (w : World) (h : TwoRd base w g1 v1 s g2 v2 s) (hn : n < 18446744073709551616) :
    Calls Try.prog 55 #[.pointer (some ⟨g1, 0, none⟩), .pointer (some ⟨g2, 0, none⟩), (Stp.mk 4 n st).val] w fun e w' => e = .returned (.bool true) ∧ OnR base w w' g1 v1 (s.step ⟨4, n, st⟩) g2 v2 (s.step ⟨4, n, st⟩) := by
  have H0 := Lib.hid h
  have HS0 := Lib.hid (TwoRd.on (h.below ((Below.refl _ _).alloc (Nat.le_refl _) (.cells #[.int .i64 4, .int .u64 (n : Int), .string st] 55))))
  clear h
  unfold Stp.val
  simp only
  go_enter Try.func55, Try.ntmps55
  go_wp2_with (first
    | (go_at_call 97; refine (u64_r base g1 v1 s _ HS0.out.two.a).mono ?_; rintro r w1 ⟨rfl, ht⟩; have HS1 := Lib.hid (HS0.out.left ht); clear ht)
    | (go_at_call 98; refine (ru64_r base g2 v2 s _ HS1.out.two.b).mono ?_; rintro r w2 ⟨rfl, ht⟩; have HS2 := Lib.hid (HS1.out.right ht); clear ht))
  go_ret
  have HF := OnR.out H0.out HS2.out
  exact ⟨by simp, by simpa [Rs.step] using HF⟩

set_option maxHeartbeats 400000 in
set_option maxRecDepth 100000 in
theorem reads_two5 (base g1 g2 : Nat) (v1 v2 : Value) (s : Rs) (n : Nat) (st : ByteArray) (w : World) (h : TwoRd base w g1 v1 s g2 v2 s) (hn : n < 18446744073709551616) :
    Calls Try.prog 55 #[.pointer (some ⟨g1, 0, none⟩), .pointer (some ⟨g2, 0, none⟩), (Stp.mk 5 n st).val] w fun e w' => e = .returned (.bool true) ∧ OnR base w w' g1 v1 (s.step ⟨5, n, st⟩) g2 v2 (s.step ⟨5, n, st⟩) := by
  have H0 := Lib.hid h
  have HS0 := Lib.hid (TwoRd.on (h.below ((Below.refl _ _).alloc (Nat.le_refl _) (.cells #[.int .i64 5, .int .u64 (n : Int), .string st] 55))))
  clear h
  unfold Stp.val
  simp only
  have hsg := sg_in hn
  have e1 := wrap_sg hn
  have b0 := (OnR.bx (x := ⟨5, n, st⟩) H0.out HS0.out)
  have HB0 := Lib.hid b0
  clear b0
  go_enter Try.func55, Try.ntmps55
  go_wp2
  go_region_held3 (fun W => W.cell? ⟨w.heap.size, 0, none⟩ = some (.int .i64 5) ∧ W.cell? ⟨w.heap.size, 1, none⟩ = some (.int .u64 (n : Int)) ∧ W.cell? ⟨w.heap.size, 2, none⟩ = some (.string st) ∧ Bx3 W w.heap.size ⟨5, n, st⟩)
    (first | assumption | exact ⟨HB0.out.facts.1, HB0.out.facts.2.1, HB0.out.facts.2.2, HB0.out⟩ | exact ⟨hS1.facts.1, hS1.facts.2.1, hS1.facts.2.2, hS1⟩ | exact ⟨hS2.facts.1, hS2.facts.2.1, hS2.facts.2.2, hS2⟩)
    (first
      | (go_at_call 99; refine (text_r base g1 v1 s (sg n) _ (HS0.out.two.a.below (Below.refl _ _).drew) hsg).mono ?_; rintro r w1 ⟨rfl, ht⟩; have HS1 := Lib.hid ((HS0.out.below (Below.refl _ _).drew).left ht); have hS1 := OnR.bx (x := ⟨5, n, st⟩) H0.out HS1.out; clear ht)
      | (go_at_call 100; refine (rtext_r base g2 v2 s (sg n) _ HS1.out.two.b hsg).mono ?_; rintro r w2 ⟨rfl, ht⟩; have HS2 := Lib.hid (HS1.out.right ht); have hS2 := OnR.bx (x := ⟨5, n, st⟩) H0.out HS2.out; clear ht))
  go_wp2
  go_ret
  have HF := OnR.out H0.out HS2.out
  exact ⟨by simp, by simpa [Rs.step] using HF⟩

set_option maxHeartbeats 400000 in
set_option maxRecDepth 100000 in
theorem reads_two10 (base g1 g2 : Nat) (v1 v2 : Value) (s : Rs) (n : Nat) (st : ByteArray) (w : World) (h : TwoRd base w g1 v1 s g2 v2 s) (hn : n < 18446744073709551616) :
    Calls Try.prog 55 #[.pointer (some ⟨g1, 0, none⟩), .pointer (some ⟨g2, 0, none⟩), (Stp.mk 10 n st).val] w fun e w' => e = .returned (.bool true) ∧ OnR base w w' g1 v1 (s.step ⟨10, n, st⟩) g2 v2 (s.step ⟨10, n, st⟩) := by
  have H0 := Lib.hid h
  have HS0 := Lib.hid (TwoRd.on (h.below ((Below.refl _ _).alloc (Nat.le_refl _) (.cells #[.int .i64 10, .int .u64 (n : Int), .string st] 55))))
  clear h
  unfold Stp.val
  simp only
  have e1 := wrap_sg hn
  obtain ⟨c00, c01, c02⟩ := (OnR.bx (x := ⟨10, n, st⟩) H0.out HS0.out).facts
  simp only at c00 c01 c02
  have htl := s.take_len H0.out.a.ok (sg n)
  have HST : Hid (s.step ⟨10, n, st⟩ = (s.take (sg n)).2) := Lib.hid (by simp [Rs.step])
  obtain ⟨q, hq⟩ : ∃ q, q = s.take (sg n) := ⟨_, rfl⟩
  rw [← hq] at HST htl
  have PA := Lib.hid (fun W (h : Rdr base W 78 Rs.cells g1 v1 s) => raw_r base g1 v1 s (sg n) W h)
  have PB := Lib.hid (fun W (h : Rdr base W 113 Rs.rcells g2 v2 s) => rraw_all base g2 v2 s (sg n) W h)
  unfold Rawed at PA PB
  rw [← hq] at PA PB
  clear hq
  go_enter Try.func55, Try.ntmps55
  go_wp2_with (first
    | (go_at_call 101; refine (PA.out _ HS0.out.two.a).mono ?_; rintro r w1 ⟨A1, k1, rfl, ho1, ht⟩; have HS1 := Lib.hid (HS0.out.left ht); have HO1 := Lib.hid ho1; obtain ⟨d0, d1, d2⟩ := (OnR.bx (x := ⟨10, n, st⟩) H0.out HS1.out).facts; simp only at d0 d1 d2; have hl1 := ht.kept.size; clear ht ho1)
    | (go_at_call 102; refine (PB.out _ HS1.out.two.b).mono ?_; rintro r w2 ⟨A2, k2, rfl, ho2, ht⟩; have HS2 := Lib.hid (HS1.out.right ht); have HO2 := Lib.hid ho2; have HP2 := Lib.hid (own_keptS HO1.out ht.kept (fun z hz e => by have e1 := (HO1.out.lt z hz).1; have e2 := H0.out.b.lt; simp at e1; omega)); have hl2 := ht.kept.size; clear ht ho2)
    | (go_at_call 19; refine (same_yes A1 A2 q.1.length q.1.length k1 k2 q.1 q.1 _ (rd_own HP2.out) (rd_own HO2.out) rfl rfl (by omega) (by omega) rfl).mono ?_; rintro e w9 ⟨rfl, nn, rfl⟩; have HS3 := Lib.hid (HS2.out.below (below_drewN (Below.refl _ _) nn)); have HP3 := Lib.hid (own_below HP2.out (below_drewN (Below.refl _ _) nn)))
    | (go_at_call 23; refine (marked_own _ _ _ _ 4 _ HP3.out htl (Nat.le_trans hl1 hl2)).mono ?_; rintro e w4 ⟨A4, k4, rfl, hb4⟩; have HS4 := Lib.hid (OnR.old HS0.out.two HS3.out hb4)))
  go_ret
  have HF := OnR.out H0.out HS4.out
  exact ⟨rfl, by rw [HST.out]; exact HF⟩

set_option maxHeartbeats 400000 in
set_option maxRecDepth 100000 in
theorem reads_two11 (base g1 g2 : Nat) (v1 v2 : Value) (s : Rs) (n : Nat) (st : ByteArray) (w : World) (h : TwoRd base w g1 v1 s g2 v2 s) (hn : n < 18446744073709551616) :
    Calls Try.prog 55 #[.pointer (some ⟨g1, 0, none⟩), .pointer (some ⟨g2, 0, none⟩), (Stp.mk 11 n st).val] w fun e w' => e = .returned (.bool true) ∧ OnR base w w' g1 v1 (s.step ⟨11, n, st⟩) g2 v2 (s.step ⟨11, n, st⟩) := by
  have H0 := Lib.hid h
  have HS0 := Lib.hid (TwoRd.on (h.below ((Below.refl _ _).alloc (Nat.le_refl _) (.cells #[.int .i64 11, .int .u64 (n : Int), .string st] 55))))
  clear h
  unfold Stp.val
  simp only
  go_enter Try.func55, Try.ntmps55
  go_wp2_with (first
    | (go_at_call 56; refine (rest_is base g1 v1 s _ HS0.out.two.a).mono ?_; rintro r w1 ⟨rfl, m1, rfl⟩; have HS1 := Lib.hid (HS0.out.below (below_drewN (Below.refl _ _) m1)))
    | (go_at_call 57; refine (rrest_is base g2 v2 s _ HS1.out.two.b).mono ?_; rintro r w2 ⟨rfl, m2, rfl⟩; have HS2 := Lib.hid (HS0.out.below (below_drewN (Below.refl _ _) (m1 + m2))))
    | (go_at_call 58; refine (end_r base g1 v1 s _ HS2.out.two.a).mono ?_; rintro r w3 ⟨rfl, hb3⟩; have HS3 := Lib.hid (HS2.out.below hb3); clear hb3)
    | (go_at_call 59; refine (rend_r base g2 v2 s _ HS3.out.two.b).mono ?_; rintro r w4 ⟨rfl, hb4⟩; have HS4 := Lib.hid (HS3.out.below hb4); clear hb4))
  go_ret
  have HF := OnR.out H0.out HS4.out
  exact ⟨by simp, by simpa [Rs.step] using HF⟩

set_option maxHeartbeats 400000 in
set_option maxRecDepth 100000 in
theorem reads_two12 (base g1 g2 : Nat) (v1 v2 : Value) (s : Rs) (n : Nat) (st : ByteArray) (w : World) (h : TwoRd base w g1 v1 s g2 v2 s) (hn : n < 18446744073709551616) :
    Calls Try.prog 55 #[.pointer (some ⟨g1, 0, none⟩), .pointer (some ⟨g2, 0, none⟩), (Stp.mk 12 n st).val] w fun e w' => e = .returned (.bool true) ∧ OnR base w w' g1 v1 (s.step ⟨12, n, st⟩) g2 v2 (s.step ⟨12, n, st⟩) := by
  have H0 := Lib.hid h
  have HS0 := Lib.hid (TwoRd.on (h.below ((Below.refl _ _).alloc (Nat.le_refl _) (.cells #[.int .i64 12, .int .u64 (n : Int), .string st] 55))))
  clear h
  unfold Stp.val
  simp only
  have hsg := sg_in hn
  have e1 := wrap_sg hn
  obtain ⟨c00, c01, c02⟩ := (OnR.bx (x := ⟨12, n, st⟩) H0.out HS0.out).facts
  simp only at c00 c01 c02
  go_enter Try.func55, Try.ntmps55
  go_wp2_with (first
    | (go_at_call 103; refine (fail_is base g1 v1 s (sg n) _ HS0.out.two.a hsg).mono ?_; rintro r w1 ⟨rfl, ht⟩; have HS1 := Lib.hid (HS0.out.left ht); obtain ⟨d0, d1, d2⟩ := (OnR.bx (x := ⟨12, n, st⟩) H0.out HS1.out).facts; simp only at d0 d1 d2; have hl1 := ht.kept.size; clear ht)
    | (go_at_call 104; refine (rfail_is base g2 v2 s (sg n) _ HS1.out.two.b hsg).mono ?_; rintro r w2 ⟨rfl, ht⟩; have HS2 := Lib.hid (HS1.out.right ht); clear ht))
  go_ret
  have HF := OnR.out H0.out HS2.out
  exact ⟨rfl, by simpa [Rs.step] using HF⟩

set_option maxRecDepth 100000 in
theorem reads_else (k : Int) (n : Nat) (s : ByteArray) (w : World) (h0 : k ≠ 0) (h1 : k ≠ 1) (h2 : k ≠ 2) (h3 : k ≠ 3) (h4 : k ≠ 4) (h5 : k ≠ 5) (h10 : k ≠ 10) (h11 : k ≠ 11) (h12 : k ≠ 12) (p q : Option Addr) :
    Calls Try.prog 55 #[.pointer p, .pointer q, (Stp.mk k n s).val] w fun e w' => e = .returned (.bool true) ∧ w' = w.alloc (.cells #[.int .i64 k, .int .u64 (n : Int), .string s] 55) := by
  unfold Stp.val
  simp only
  go_enter Try.func55, Try.ntmps55
  go_wp2
  go_ret
  exact ⟨rfl, rfl⟩

/-- One step of two readers. -/
theorem reads_two (base g1 g2 : Nat) (v1 v2 : Value) (s : Rs) (x : Stp) (w : World) (h : TwoRd base w g1 v1 s g2 v2 s) (hx : x.Ok) :
    Calls Try.prog 55 #[.pointer (some ⟨g1, 0, none⟩), .pointer (some ⟨g2, 0, none⟩), x.val] w fun e w' => e = .returned (.bool true) ∧ OnR base w w' g1 v1 (s.step x) g2 v2 (s.step x) := by
  obtain ⟨k, n, st⟩ := x
  obtain ⟨_, hn, hs⟩ := hx
  simp only at hn hs
  by_cases h0 : k = 0
  · subst h0; exact reads_two0 base g1 g2 v1 v2 s n st w h hn
  by_cases h1 : k = 1
  · subst h1; exact reads_two1 base g1 g2 v1 v2 s n st w h hn
  by_cases h2 : k = 2
  · subst h2; exact reads_two2 base g1 g2 v1 v2 s n st w h hn
  by_cases h3 : k = 3
  · subst h3; exact reads_two3 base g1 g2 v1 v2 s n st w h hn
  by_cases h4 : k = 4
  · subst h4; exact reads_two4 base g1 g2 v1 v2 s n st w h hn
  by_cases h5 : k = 5
  · subst h5; exact reads_two5 base g1 g2 v1 v2 s n st w h hn
  by_cases h10 : k = 10
  · subst h10; exact reads_two10 base g1 g2 v1 v2 s n st w h hn
  by_cases h11 : k = 11
  · subst h11; exact reads_two11 base g1 g2 v1 v2 s n st w h hn
  by_cases h12 : k = 12
  · subst h12; exact reads_two12 base g1 g2 v1 v2 s n st w h hn
  refine (reads_else k n st w h0 h1 h2 h3 h4 h5 h10 h11 h12 _ _).mono ?_
  rintro e w' ⟨he, rfl⟩
  refine ⟨he, ?_⟩
  simp only [Rs.step, h0, h1, h2, h3, h4, h5, h10, h12, if_false]
  exact h.on.below ((Below.refl _ _).alloc (Nat.le_refl _) _)

set_option maxHeartbeats 400000 in
set_option maxRecDepth 100000 in
theorem reads_none0 (n : Nat) (st : ByteArray) (w : World) (hn : n < 18446744073709551616) :
    Calls Try.prog 55 #[.pointer none, .pointer none, (Stp.mk 0 n st).val] w fun e w' => e = .returned (.bool true) ∧ Below w.heap.size w w' := by
  have B1 := Lib.hid ((Below.refl w.heap.size w).alloc (Nat.le_refl _) (.cells #[.int .i64 0, .int .u64 (n : Int), .string st] 55))
  unfold Stp.val
  simp only
  go_enter Try.func55, Try.ntmps55
  go_wp2_with (first
    | (go_at_call 89; refine (byte_rnone _).mono ?_; rintro r w1 ⟨rfl, rfl⟩)
    | (go_at_call 90; refine (rbyte_rnone _).mono ?_; rintro r w2 ⟨rfl, rfl⟩))
  go_ret
  exact ⟨rfl, B1.out⟩

set_option maxHeartbeats 400000 in
set_option maxRecDepth 100000 in
theorem reads_none1 (n : Nat) (st : ByteArray) (w : World) (hn : n < 18446744073709551616) :
    Calls Try.prog 55 #[.pointer none, .pointer none, (Stp.mk 1 n st).val] w fun e w' => e = .returned (.bool true) ∧ Below w.heap.size w w' := by
  have B1 := Lib.hid ((Below.refl w.heap.size w).alloc (Nat.le_refl _) (.cells #[.int .i64 1, .int .u64 (n : Int), .string st] 55))
  unfold Stp.val
  simp only
  go_enter Try.func55, Try.ntmps55
  go_wp2_with (first
    | (go_at_call 91; refine (uv_rnone _).mono ?_; rintro r w1 ⟨rfl, rfl⟩)
    | (go_at_call 92; refine (ruv_rnone _).mono ?_; rintro r w2 ⟨rfl, rfl⟩))
  go_ret
  exact ⟨rfl, B1.out⟩

set_option maxHeartbeats 400000 in
set_option maxRecDepth 100000 in
theorem reads_none2 (n : Nat) (st : ByteArray) (w : World) (hn : n < 18446744073709551616) :
    Calls Try.prog 55 #[.pointer none, .pointer none, (Stp.mk 2 n st).val] w fun e w' => e = .returned (.bool true) ∧ Below w.heap.size w w' := by
  have B1 := Lib.hid ((Below.refl w.heap.size w).alloc (Nat.le_refl _) (.cells #[.int .i64 2, .int .u64 (n : Int), .string st] 55))
  unfold Stp.val
  simp only
  go_enter Try.func55, Try.ntmps55
  go_wp2_with (first
    | (go_at_call 93; refine (varint_rnone _).mono ?_; rintro r w1 ⟨rfl, rfl⟩)
    | (go_at_call 94; refine (rvarint_rnone _).mono ?_; rintro r w2 ⟨rfl, rfl⟩))
  go_ret
  exact ⟨rfl, B1.out⟩

set_option maxHeartbeats 400000 in
set_option maxRecDepth 100000 in
theorem reads_none3 (n : Nat) (st : ByteArray) (w : World) (hn : n < 18446744073709551616) :
    Calls Try.prog 55 #[.pointer none, .pointer none, (Stp.mk 3 n st).val] w fun e w' => e = .returned (.bool true) ∧ Below w.heap.size w w' := by
  have B1 := Lib.hid ((Below.refl w.heap.size w).alloc (Nat.le_refl _) (.cells #[.int .i64 3, .int .u64 (n : Int), .string st] 55))
  unfold Stp.val
  simp only
  go_enter Try.func55, Try.ntmps55
  go_wp2_with (first
    | (go_at_call 95; refine (u32_rnone _).mono ?_; rintro r w1 ⟨rfl, rfl⟩)
    | (go_at_call 96; refine (ru32_rnone _).mono ?_; rintro r w2 ⟨rfl, rfl⟩))
  go_ret
  exact ⟨rfl, B1.out⟩

set_option maxHeartbeats 400000 in
set_option maxRecDepth 100000 in
theorem reads_none4 (n : Nat) (st : ByteArray) (w : World) (hn : n < 18446744073709551616) :
    Calls Try.prog 55 #[.pointer none, .pointer none, (Stp.mk 4 n st).val] w fun e w' => e = .returned (.bool true) ∧ Below w.heap.size w w' := by
  have B1 := Lib.hid ((Below.refl w.heap.size w).alloc (Nat.le_refl _) (.cells #[.int .i64 4, .int .u64 (n : Int), .string st] 55))
  unfold Stp.val
  simp only
  go_enter Try.func55, Try.ntmps55
  go_wp2_with (first
    | (go_at_call 97; refine (u64_rnone _).mono ?_; rintro r w1 ⟨rfl, rfl⟩)
    | (go_at_call 98; refine (ru64_rnone _).mono ?_; rintro r w2 ⟨rfl, rfl⟩))
  go_ret
  exact ⟨rfl, B1.out⟩

set_option maxHeartbeats 400000 in
set_option maxRecDepth 100000 in
theorem reads_none5 (n : Nat) (st : ByteArray) (w : World) (hn : n < 18446744073709551616) :
    Calls Try.prog 55 #[.pointer none, .pointer none, (Stp.mk 5 n st).val] w fun e w' => e = .returned (.bool true) ∧ Below w.heap.size w w' := by
  have B1 := Lib.hid ((Below.refl w.heap.size w).alloc (Nat.le_refl _) (.cells #[.int .i64 5, .int .u64 (n : Int), .string st] 55))
  unfold Stp.val
  simp only
  have e1 := wrap_sg hn
  have hb := Bx3.new w ⟨5, n, st⟩
  have HB0 := Lib.hid hb
  clear hb
  go_enter Try.func55, Try.ntmps55
  go_wp2
  go_region_held3 (fun W => W.cell? ⟨w.heap.size, 0, none⟩ = some (.int .i64 5) ∧ W.cell? ⟨w.heap.size, 1, none⟩ = some (.int .u64 (n : Int)) ∧ W.cell? ⟨w.heap.size, 2, none⟩ = some (.string st))
    (first | assumption | exact ⟨HB0.out.facts.1, HB0.out.facts.2.1, HB0.out.facts.2.2⟩)
    (first
      | (go_at_call 99; refine (text_rnone _ _).mono ?_; rintro r w1 ⟨rfl, rfl⟩)
      | (go_at_call 100; refine (rtext_rnone _ _).mono ?_; rintro r w2 ⟨rfl, rfl⟩))
  go_wp2
  go_ret
  exact ⟨by simp, B1.out.drew⟩

set_option maxHeartbeats 400000 in
set_option maxRecDepth 100000 in
theorem reads_none10 (n : Nat) (st : ByteArray) (w : World) (hn : n < 18446744073709551616) :
    Calls Try.prog 55 #[.pointer none, .pointer none, (Stp.mk 10 n st).val] w fun e w' => e = .returned (.bool true) ∧ Below w.heap.size w w' := by
  have B1 := Lib.hid ((Below.refl w.heap.size w).alloc (Nat.le_refl _) (.cells #[.int .i64 10, .int .u64 (n : Int), .string st] 55))
  unfold Stp.val
  simp only
  have e1 := wrap_sg hn
  have hb := Bx3.new w ⟨10, n, st⟩
  have HB0 := Lib.hid hb
  clear hb
  go_enter Try.func55, Try.ntmps55
  go_wp2_with (first
    | (go_at_call 101; refine (raw_rnone _ _).mono ?_; rintro r w1 ⟨A1, k1, rfl, ho1, hb1⟩; have HO1 := Lib.hid ho1; have HB1 := Lib.hid hb1; obtain ⟨d0, d1, d2⟩ := (HB0.out.below hb1 (by simp)).facts; simp only at d0 d1 d2; have hl0 : w.heap.size < w1.heap.size := (by have h9 := hb1.size; simp at h9; omega); clear ho1 hb1)
    | (go_at_call 102; refine (rraw_rnone _ _).mono ?_; rintro r w2 ⟨rfl, rfl⟩)
    | (go_at_call 19; refine (same_yes A1 none 0 0 k1 0 [] [] _ (rd_own HO1.out) (Rd.nil_ _ _) rfl rfl (by omega) (by omega) rfl).mono ?_; rintro e w9 ⟨rfl, nn, rfl⟩; have HP3 := Lib.hid (own_below HO1.out (below_drewN (Below.refl _ _) nn)); have HB3 := Lib.hid (below_drewN HB1.out nn))
    | (go_at_call 23; refine (marked_own _ _ _ _ 4 _ HP3.out (by omega) HB3.out.size).mono ?_; rintro e w4 ⟨A4, k4, rfl, hb4⟩; have HB4 := Lib.hid hb4))
  go_ret
  exact ⟨rfl, B1.out.trans ((HB3.out.trans HB4.out).mono (by simp))⟩

set_option maxHeartbeats 400000 in
set_option maxRecDepth 100000 in
theorem reads_none11 (n : Nat) (st : ByteArray) (w : World) (hn : n < 18446744073709551616) :
    Calls Try.prog 55 #[.pointer none, .pointer none, (Stp.mk 11 n st).val] w fun e w' => e = .returned (.bool true) ∧ Below w.heap.size w w' := by
  have B1 := Lib.hid ((Below.refl w.heap.size w).alloc (Nat.le_refl _) (.cells #[.int .i64 11, .int .u64 (n : Int), .string st] 55))
  unfold Stp.val
  simp only
  go_enter Try.func55, Try.ntmps55
  go_wp2_with (first
    | (go_at_call 56; refine (rest_none _).mono ?_; rintro r w1 ⟨rfl, rfl⟩)
    | (go_at_call 57; refine (rrest_none _).mono ?_; rintro r w2 ⟨rfl, rfl⟩)
    | (go_at_call 58; refine (end_rnone _).mono ?_; rintro r w3 ⟨rfl, hb3⟩; have HB3 := Lib.hid hb3; clear hb3)
    | (go_at_call 59; refine (rend_rnone _).mono ?_; rintro r w4 ⟨rfl, hb4⟩; have HB4 := Lib.hid hb4; clear hb4))
  go_ret
  exact ⟨rfl, B1.out.trans ((HB3.out.trans (HB4.out.mono HB3.out.size)).mono (by simp))⟩

set_option maxHeartbeats 400000 in
set_option maxRecDepth 100000 in
theorem reads_none12 (n : Nat) (st : ByteArray) (w : World) (hn : n < 18446744073709551616) :
    Calls Try.prog 55 #[.pointer none, .pointer none, (Stp.mk 12 n st).val] w fun e w' => e = .returned (.bool true) ∧ Below w.heap.size w w' := by
  have B1 := Lib.hid ((Below.refl w.heap.size w).alloc (Nat.le_refl _) (.cells #[.int .i64 12, .int .u64 (n : Int), .string st] 55))
  unfold Stp.val
  simp only
  have e1 := wrap_sg hn
  go_enter Try.func55, Try.ntmps55
  go_wp2_with (first
    | (go_at_call 103; refine (fail_none _ _).mono ?_; rintro r w1 ⟨rfl, rfl⟩)
    | (go_at_call 104; refine (rfail_none _ _).mono ?_; rintro r w2 ⟨rfl, rfl⟩))
  go_ret
  exact ⟨rfl, B1.out⟩

/-- One step of no reader. -/
theorem reads_none (x : Stp) (w : World) (hx : x.Ok) :
    Calls Try.prog 55 #[.pointer none, .pointer none, x.val] w fun e w' => e = .returned (.bool true) ∧ Below w.heap.size w w' := by
  obtain ⟨k, n, st⟩ := x
  obtain ⟨_, hn, hs⟩ := hx
  simp only at hn hs
  by_cases h0 : k = 0
  · subst h0; exact reads_none0 n st w hn
  by_cases h1 : k = 1
  · subst h1; exact reads_none1 n st w hn
  by_cases h2 : k = 2
  · subst h2; exact reads_none2 n st w hn
  by_cases h3 : k = 3
  · subst h3; exact reads_none3 n st w hn
  by_cases h4 : k = 4
  · subst h4; exact reads_none4 n st w hn
  by_cases h5 : k = 5
  · subst h5; exact reads_none5 n st w hn
  by_cases h10 : k = 10
  · subst h10; exact reads_none10 n st w hn
  by_cases h11 : k = 11
  · subst h11; exact reads_none11 n st w hn
  by_cases h12 : k = 12
  · subst h12; exact reads_none12 n st w hn
  refine (reads_else k n st w h0 h1 h2 h3 h4 h5 h10 h11 h12 _ _).mono ?_
  rintro e w' ⟨he, rfl⟩
  exact ⟨he, (Below.refl _ _).alloc (Nat.le_refl _) _⟩

theorem Rs.Ok.step {s : Rs} (h : s.Ok) {x : Stp} (hx : x.n < 18446744073709551616) : (s.step x).Ok := by
  unfold Rs.step
  repeat' split
  · exact h.take 1
  · exact h.num.1
  · exact h.num.1
  · exact h.take 4
  · exact h.take 8
  · exact (h.text _).1
  · exact h.take _
  · exact h.fail (sg_in hx)
  · exact h
end Go.Proofs.Ytfgjlplfpjfnoaa
