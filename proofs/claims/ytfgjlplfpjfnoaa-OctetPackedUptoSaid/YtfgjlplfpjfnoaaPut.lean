/- put: what an item's bytes are, the document's way. -/
import Derived.Test.YtfgjlplfpjfnoaaPack
import Derived.Test.YtfgjlplfpjfnoaaAppStep
namespace Go.Proofs.Ytfgjlplfpjfnoaa
open Go Go.RowKit
set_option linter.unusedVariables false
set_option linter.unusedSimpArgs false

structure OneI (w W : World) (x : Stp) : Prop where
  a : BxI W w.heap.size x
  z : w.heap.size + 1 ≤ W.heap.size
theorem OneI.mk0 (w : World) (x : Stp) : OneI w (w.alloc (.cells #[.int .i64 x.k, .int .u64 (x.n : Int), .string x.s] 68)) x := ⟨BxI.new w x, by simp⟩
theorem OneI.drew {w W : World} {x : Stp} (h : OneI w W x) : OneI w W.drew x := ⟨h.a, h.z⟩
theorem OneI.more {w W W' : World} {x : Stp} (h : OneI w W x) (hb : Below W.heap.size W W') : OneI w W' x := ⟨h.a.below hb h.a.lt, Nat.le_trans h.z hb.size⟩
theorem OneI.grown {w W W' : World} {x : Stp} {r : Option Nat} (h : OneI w W x) (hb : W.grownBy W' r) (hr : r ≠ some w.heap.size) : OneI w W' x := ⟨(hb.block _ h.a.lt (fun e => hr e.symm)).trans h.a, Nat.le_trans h.z hb.size⟩
theorem OneI.s {w W : World} {x : Stp} (h : OneI w W x) : W.cell? ⟨w.heap.size, 0, none⟩ = some (.int .i64 x.k) ∧ W.cell? ⟨w.heap.size, 1, none⟩ = some (.int .u64 (x.n : Int)) ∧ W.cell? ⟨w.heap.size, 2, none⟩ = some (.string x.s) ∧ OneI w W x :=
  ⟨h.a.facts.1, h.a.facts.2.1, h.a.facts.2.2, h⟩

theorem OneI.ofS {w W : World} {x : Stp} (h : W.cell? ⟨w.heap.size, 0, none⟩ = some (.int .i64 x.k) ∧ W.cell? ⟨w.heap.size, 1, none⟩ = some (.int .u64 (x.n : Int)) ∧ W.cell? ⟨w.heap.size, 2, none⟩ = some (.string x.s) ∧ OneI w W x) : OneI w W x := h.2.2.2
theorem OneI.alloc {w W : World} {x : Stp} (h : OneI w W x) (o : Obj) : OneI w (W.alloc o) x := h.more (below_box W o)

/-- Its answer. -/
def PutPost (w : World) (base : Nat) (xs : List Nat) (x : Stp) (e : Ending) (w' : World) : Prop :=
  ∃ v', e = .returned (.tuple #[v', .bool x.fits]) ∧ Below base w w' ∧ (x.fits = true → w'.ownsRow base 5 1 v' (xs ++ x.bytes).length (b8 (xs ++ x.bytes)))

theorem own_box {w : World} {base : Nat} {v : Value} {n : Nat} {xs : List Value} {e : TypeId} (h : w.ownsRow base e 1 v n xs) : v.ownBlock ≠ some w.heap.size := by
  intro hv
  have := (h.lt _ hv).2
  omega
theorem put_below {w W W' : World} {base : Nat} {v : Value} {n : Nat} {xs : List Value} {e : TypeId} (h : w.ownsRow base e 1 v n xs) (hb : Below base w W) (hg : W.grownBy W' v.ownBlock) (hbase : base ≤ w.heap.size) : Below base w W' :=
  hb.trans (below_of_grown hg (Nat.le_trans hbase hb.size) (fun k hk => (h.lt k hk).1))

theorem put_lit (w : World) (o : Obj) (cs : List Value) (e : TypeId) : Rd ((w.alloc o).alloc (.cells cs.toArray e)).drew (some ⟨w.heap.size + 1, 0, none⟩) cs := by
  have h := (rd_lit (w.alloc o) cs e).below ((Below.refl _ _).drew)
  rw [show (w.alloc o).heap.size = w.heap.size + 1 from by simp] at h
  exact h
theorem chain_ne {v v' : Value} {W : World} {g : Nat} (h3 : v'.ownBlock = v.ownBlock ∨ ∃ k, v'.ownBlock = some k ∧ W.heap.size ≤ k) (h : v.ownBlock ≠ some g) (hg : g < W.heap.size) : v'.ownBlock ≠ some g := by
  rcases h3 with h3 | ⟨q, h3, h4⟩
  · rw [h3]; exact h
  · rw [h3]
    intro e
    injection e with e
    omega
theorem ret_t {v v' : Value} {a b : Bool} (hv : v = v') (h : a = b) : Ending.returned (.tuple #[v, .bool a]) = .returned (.tuple #[v', .bool b]) := by rw [hv, h]

set_option maxHeartbeats 400000 in
set_option maxRecDepth 100000 in
theorem put_0 (base : Nat) (v : Value) (xs : List Nat) (n : Nat) (s : ByteArray) (w : World) (ho : w.ownsRow base 5 1 v xs.length (b8 xs)) (hb : base ≤ w.heap.size) (hl : xs.length + 10 + s.size ≤ 140737488351232) (hn : n < 18446744073709551616) (he : s.toList.isEmpty = true) :
    Calls Try.prog 83 #[v, .agg #[.int .i64 0, .int .u64 (n : Int), .string s]] w (PutPost w base xs ⟨0, n, s⟩) := by
  have START := Lib.hid (OneI.mk0 w ⟨0, n, s⟩)
  have HO := Lib.hid ho
  have HB := Lib.hid (below_box w (.cells #[.int .i64 0, .int .u64 (n : Int), .string s] 68))
  obtain ⟨m, hm⟩ : ∃ m, m = xs.length := ⟨_, rfl⟩
  have HO2 := Lib.hid ((hm ▸ ho : w.ownsRow base 5 1 v m (b8 xs)).alloc (.cells #[.int .i64 0, .int .u64 (n : Int), .string s] 68))
  have HM := Lib.hid hm
  rw [← hm] at hl
  clear ho hm
  have RL := Lib.hid (put_lit w (.cells #[.int .i64 0, .int .u64 (n : Int), .string s] 68) (b8 [n % 256]) 5)
  go_enter Try.func83, Try.ntmps83
  go_wp2
  go_region_held3 (fun W => W.cell? ⟨w.heap.size, 0, none⟩ = some (.int .i64 0) ∧ W.cell? ⟨w.heap.size, 1, none⟩ = some (.int .u64 (n : Int)) ∧ W.cell? ⟨w.heap.size, 2, none⟩ = some (.string s) ∧ OneI w W ⟨0, n, s⟩)
    (first | assumption | exact OneI.s START.out | exact OneI.s START.out.drew | exact OneI.s (OneI.alloc (OneI.ofS (x := ⟨0, n, s⟩) (by assumption)) _) | exact OneI.s (by assumption))
    (first
      | (refine step_app8 _ rfl (.tmp 19) (.tmp 23) rfl base v m xs rfl (own_below HO2.out (((Below.refl _ _).alloc (Nat.le_refl _) _).drew)) (some ⟨w.heap.size + 1, 0, none⟩) 1 1 [n % 256] rfl rfl RL.out (by omega) (by simp; omega) ?_; intro v' w' h1 h2 h3; have HV := Lib.hid h1; have HG := Lib.hid h2; have hS : OneI w w' ⟨0, n, s⟩ := OneI.grown (START.out.alloc _).drew h2 (own_box HO.out); clear h1 h2 h3))
  go_wp2
  go_ret2
  refine ⟨_, ret_t rfl ?_, put_below HO.out (((HB.out.mono hb).alloc (by simp; omega) _).drew) HG.out hb, fun _ => ?_⟩
  · simp [Stp.fits, he]
    omega
  · have h := HV.out
    rw [HM.out] at h
    simpa [Stp.bytes, fx_length] using h

set_option maxHeartbeats 400000 in
set_option maxRecDepth 100000 in
theorem put_1 (base : Nat) (v : Value) (xs : List Nat) (n : Nat) (s : ByteArray) (w : World) (ho : w.ownsRow base 5 1 v xs.length (b8 xs)) (hb : base ≤ w.heap.size) (hl : xs.length + 10 + s.size ≤ 140737488351232) (hn : n < 18446744073709551616) (he : s.toList.isEmpty = true) :
    Calls Try.prog 83 #[v, .agg #[.int .i64 1, .int .u64 (n : Int), .string s]] w (PutPost w base xs ⟨1, n, s⟩) := by
  have START := Lib.hid (OneI.mk0 w ⟨1, n, s⟩)
  have HO := Lib.hid ho
  have HB := Lib.hid (below_box w (.cells #[.int .i64 1, .int .u64 (n : Int), .string s] 68))
  obtain ⟨m, hm⟩ : ∃ m, m = xs.length := ⟨_, rfl⟩
  have HO2 := Lib.hid ((hm ▸ ho : w.ownsRow base 5 1 v m (b8 xs)).alloc (.cells #[.int .i64 1, .int .u64 (n : Int), .string s] 68))
  have HM := Lib.hid hm
  rw [← hm] at hl
  clear ho hm
  go_enter Try.func83, Try.ntmps83
  go_wp2_with (first
    | (go_at_call 25; refine (ruvarint_any n _ hn).mono ?_; rintro e w2 ⟨A2, c2, rfl, ho2, hb2⟩; have HA := Lib.hid ho2; have HB2 := Lib.hid ((HB.out.mono hb).trans (hb2.mono (by simp; omega))); have HO3 := Lib.hid (own_below HO2.out hb2); have hl2 := Uv.uv_len_64 n hn; clear ho2 hb2)
    | (refine app8 _ rfl (.tmp 31) (.tmp 34) rfl base v m xs rfl HO3.out A2 _ c2 (Uv.uv n) rfl rfl (rd_own HA.out) (by omega) (Nat.le_trans hb HB2.out.size) ?_; intro v' w' h1 h2 h3; have HV := Lib.hid h1; have HG := Lib.hid h2; clear h1 h2 h3))
  go_ret2
  refine ⟨_, ret_t rfl ?_, put_below HO.out HB2.out HG.out hb, fun _ => ?_⟩
  · simp [Stp.fits, he]
  · have h := HV.out
    rw [HM.out] at h
    simpa [Stp.bytes, fx_length] using h

set_option maxHeartbeats 400000 in
set_option maxRecDepth 100000 in
theorem put_2 (base : Nat) (v : Value) (xs : List Nat) (n : Nat) (s : ByteArray) (w : World) (ho : w.ownsRow base 5 1 v xs.length (b8 xs)) (hb : base ≤ w.heap.size) (hl : xs.length + 10 + s.size ≤ 140737488351232) (hn : n < 18446744073709551616) (he : s.toList.isEmpty = true) :
    Calls Try.prog 83 #[v, .agg #[.int .i64 2, .int .u64 (n : Int), .string s]] w (PutPost w base xs ⟨2, n, s⟩) := by
  have START := Lib.hid (OneI.mk0 w ⟨2, n, s⟩)
  have HO := Lib.hid ho
  have HB := Lib.hid (below_box w (.cells #[.int .i64 2, .int .u64 (n : Int), .string s] 68))
  obtain ⟨m, hm⟩ : ∃ m, m = xs.length := ⟨_, rfl⟩
  have HO2 := Lib.hid ((hm ▸ ho : w.ownsRow base 5 1 v m (b8 xs)).alloc (.cells #[.int .i64 2, .int .u64 (n : Int), .string s] 68))
  have HM := Lib.hid hm
  rw [← hm] at hl
  clear ho hm
  go_enter Try.func83, Try.ntmps83
  go_wp2_with (first
    | (go_at_call 25; refine (ruvarint_any n _ hn).mono ?_; rintro e w2 ⟨A2, c2, rfl, ho2, hb2⟩; have HA := Lib.hid ho2; have HB2 := Lib.hid ((HB.out.mono hb).trans (hb2.mono (by simp; omega))); have HO3 := Lib.hid (own_below HO2.out hb2); have hl2 := Uv.uv_len_64 n hn; clear ho2 hb2)
    | (refine app8 _ rfl (.tmp 31) (.tmp 34) rfl base v m xs rfl HO3.out A2 _ c2 (Uv.uv n) rfl rfl (rd_own HA.out) (by omega) (Nat.le_trans hb HB2.out.size) ?_; intro v' w' h1 h2 h3; have HV := Lib.hid h1; have HG := Lib.hid h2; clear h1 h2 h3))
  go_ret2
  refine ⟨_, ret_t rfl ?_, put_below HO.out HB2.out HG.out hb, fun _ => ?_⟩
  · simp [Stp.fits, he]
  · have h := HV.out
    rw [HM.out] at h
    simpa [Stp.bytes, fx_length] using h

set_option maxHeartbeats 400000 in
set_option maxRecDepth 100000 in
theorem put_4 (base : Nat) (v : Value) (xs : List Nat) (n : Nat) (s : ByteArray) (w : World) (ho : w.ownsRow base 5 1 v xs.length (b8 xs)) (hb : base ≤ w.heap.size) (hl : xs.length + 10 + s.size ≤ 140737488351232) (hn : n < 18446744073709551616) (he : s.toList.isEmpty = true) :
    Calls Try.prog 83 #[v, .agg #[.int .i64 4, .int .u64 (n : Int), .string s]] w (PutPost w base xs ⟨4, n, s⟩) := by
  have START := Lib.hid (OneI.mk0 w ⟨4, n, s⟩)
  have HO := Lib.hid ho
  have HB := Lib.hid (below_box w (.cells #[.int .i64 4, .int .u64 (n : Int), .string s] 68))
  obtain ⟨m, hm⟩ : ∃ m, m = xs.length := ⟨_, rfl⟩
  have HO2 := Lib.hid ((hm ▸ ho : w.ownsRow base 5 1 v m (b8 xs)).alloc (.cells #[.int .i64 4, .int .u64 (n : Int), .string s] 68))
  have HM := Lib.hid hm
  rw [← hm] at hl
  clear ho hm
  go_enter Try.func83, Try.ntmps83
  go_wp2_with (first
    | (go_at_call 105; refine (fixed_any n 8 _ hn (by omega) (by omega)).mono ?_; rintro e w2 ⟨A2, c2, rfl, ho2, hb2⟩; have HA := Lib.hid ho2; have HB2 := Lib.hid ((HB.out.mono hb).trans (hb2.mono (by simp; omega))); have HO3 := Lib.hid (own_below HO2.out hb2); have hl2 := fx_length 8 n; clear ho2 hb2)
    | (refine app8 _ rfl (.tmp 48) (.tmp 51) rfl base v m xs rfl HO3.out A2 _ c2 (fx n 8) rfl rfl (rd_own HA.out) (by omega) (Nat.le_trans hb HB2.out.size) ?_; intro v' w' h1 h2 h3; have HV := Lib.hid h1; have HG := Lib.hid h2; clear h1 h2 h3))
  go_ret2
  refine ⟨_, ret_t rfl ?_, put_below HO.out HB2.out HG.out hb, fun _ => ?_⟩
  · simp [Stp.fits, he]
  · have h := HV.out
    rw [HM.out] at h
    simpa [Stp.bytes, fx_length] using h

set_option maxHeartbeats 400000 in
set_option maxRecDepth 100000 in
theorem put_3 (base : Nat) (v : Value) (xs : List Nat) (n : Nat) (s : ByteArray) (w : World) (ho : w.ownsRow base 5 1 v xs.length (b8 xs)) (hb : base ≤ w.heap.size) (hl : xs.length + 10 + s.size ≤ 140737488351232) (hn : n < 18446744073709551616) (he : s.toList.isEmpty = true) :
    Calls Try.prog 83 #[v, .agg #[.int .i64 3, .int .u64 (n : Int), .string s]] w (PutPost w base xs ⟨3, n, s⟩) := by
  have START := Lib.hid (OneI.mk0 w ⟨3, n, s⟩)
  have HO := Lib.hid ho
  have HB := Lib.hid (below_box w (.cells #[.int .i64 3, .int .u64 (n : Int), .string s] 68))
  obtain ⟨m, hm⟩ : ∃ m, m = xs.length := ⟨_, rfl⟩
  have HO2 := Lib.hid ((hm ▸ ho : w.ownsRow base 5 1 v m (b8 xs)).alloc (.cells #[.int .i64 3, .int .u64 (n : Int), .string s] 68))
  have HM := Lib.hid hm
  rw [← hm] at hl
  clear ho hm
  go_enter Try.func83, Try.ntmps83
  go_wp2
  go_region_held3 (fun W => W.cell? ⟨w.heap.size, 0, none⟩ = some (.int .i64 3) ∧ W.cell? ⟨w.heap.size, 1, none⟩ = some (.int .u64 (n : Int)) ∧ W.cell? ⟨w.heap.size, 2, none⟩ = some (.string s) ∧ OneI w W ⟨3, n, s⟩)
    (first | assumption | exact OneI.s START.out | exact OneI.s START.out.drew | exact OneI.s (OneI.alloc (OneI.ofS (x := ⟨3, n, s⟩) (by assumption)) _) | exact OneI.s (by assumption))
    (first
      | (go_at_call 105; refine (fixed_any n 4 _ hn (by omega) (by omega)).mono ?_; rintro e w2 ⟨A2, c2, rfl, ho2, hb2⟩; have HA := Lib.hid ho2; have HB2 := Lib.hid (((HB.out.mono hb).drew).trans (hb2.mono (by simp; omega))); have HO3 := Lib.hid (own_below (own_below HO2.out ((Below.refl _ _).drew)) hb2); have hl2 := fx_length 4 n; have hS2 : OneI w w2 ⟨3, n, s⟩ := OneI.more START.out.drew hb2; clear ho2 hb2)
      | (refine step_app8 _ rfl (.tmp 38) (.tmp 41) rfl base v m xs rfl HO3.out A2 _ c2 (fx n 4) rfl rfl (rd_own HA.out) (by omega) (Nat.le_trans hb HB2.out.size) ?_; intro v' w' h1 h2 h3; have HV := Lib.hid h1; have HG := Lib.hid h2; have hS : OneI w w' ⟨3, n, s⟩ := OneI.grown hS2 h2 (own_box HO.out); clear h1 h2 h3))
  go_wp2
  go_ret2
  refine ⟨_, ret_t rfl ?_, put_below HO.out HB2.out HG.out hb, fun _ => ?_⟩
  · simp [Stp.fits, he]
    omega
  · have h := HV.out
    rw [HM.out] at h
    simpa [Stp.bytes, fx_mod, fx_length] using h

set_option maxHeartbeats 400000 in
set_option maxRecDepth 100000 in
theorem put_5 (base : Nat) (v : Value) (xs : List Nat) (n : Nat) (s : ByteArray) (w : World) (ho : w.ownsRow base 5 1 v xs.length (b8 xs)) (hb : base ≤ w.heap.size) (hl : xs.length + 10 + s.size ≤ 140737488351232) (hn : n < 18446744073709551616) :
    Calls Try.prog 83 #[v, .agg #[.int .i64 5, .int .u64 (n : Int), .string s]] w (PutPost w base xs ⟨5, n, s⟩) := by
  have START := Lib.hid (OneI.mk0 w ⟨5, n, s⟩)
  have HO := Lib.hid ho
  have HB := Lib.hid (below_box w (.cells #[.int .i64 5, .int .u64 (n : Int), .string s] 68))
  obtain ⟨m, hm⟩ : ∃ m, m = xs.length := ⟨_, rfl⟩
  have HO2 := Lib.hid ((hm ▸ ho : w.ownsRow base 5 1 v m (b8 xs)).alloc (.cells #[.int .i64 5, .int .u64 (n : Int), .string s] 68))
  have HM := Lib.hid hm
  rw [← hm] at hl
  clear ho hm
  go_enter Try.func83, Try.ntmps83
  go_wp2_with (first
    | (go_at_call 25; refine (ruvarint_any s.size _ (by omega)).mono ?_; rintro e w2 ⟨A2, c2, rfl, ho2, hb2⟩; have HA := Lib.hid ho2; have HB2 := Lib.hid ((HB.out.mono hb).trans (hb2.mono (by simp; omega))); have HO3 := Lib.hid (own_below HO2.out hb2); have hl2 := Uv.uv_len_64 s.size (by omega); have hS2 := Lib.hid (OneI.more START.out hb2); clear ho2 hb2)
    | (refine app8 _ rfl (.tmp 55) (.tmp 60) rfl base v m xs rfl HO3.out A2 _ c2 (Uv.uv s.size) rfl rfl (rd_own HA.out) (by omega) (Nat.le_trans hb HB2.out.size) ?_; intro v' w' h1 h2 h3; have HV := Lib.hid h1; have HB3 := Lib.hid (put_below HO.out HB2.out h2 hb); have hS3 := Lib.hid (OneI.grown hS2.out h2 (own_box HO.out)); have hx3 := chain_ne h3 (own_box HO.out) hS2.out.a.lt; clear h1 h2 h3))
  go_region_held3 (fun W => W.cell? ⟨w.heap.size, 0, none⟩ = some (.int .i64 5) ∧ W.cell? ⟨w.heap.size, 1, none⟩ = some (.int .u64 (n : Int)) ∧ W.cell? ⟨w.heap.size, 2, none⟩ = some (.string s) ∧ OneI w W ⟨5, n, s⟩)
    (first | assumption | exact OneI.s hS3.out | exact OneI.s hS3.out.drew | exact OneI.s (by assumption))
    (first
      | (refine step_appS _ rfl (.tmp 62) (.tmp 64) rfl base v' _ (xs ++ Uv.uv s.size) rfl (own_below HV.out ((Below.refl _ _).drew)) s rfl (by omega) (Nat.le_trans hb HB3.out.drew.size) ?_; intro v5 w5 h1 h2; have HV5 := Lib.hid h1; have HB5 := Lib.hid (HB3.out.drew.trans (below_of_grown h2 (Nat.le_trans hb HB3.out.drew.size) (fun k hk => (HV.out.lt k hk).1))); have hS5 : OneI w w5 ⟨5, n, s⟩ := OneI.grown hS3.out.drew h2 hx3; clear h1 h2))
  go_wp2
  go_ret2
  refine ⟨_, ret_t rfl ?_, HB5.out, fun _ => ?_⟩
  · rw [Bool.eq_iff_iff]
    simp [Stp.fits]
  · have h := HV5.out
    rw [HM.out] at h
    simpa [Stp.bytes, sb_length, Nat.add_assoc] using h

theorem below_ret {base : Nat} {w : World} (hb : base ≤ w.heap.size) (o : Obj) : Below base w (w.alloc o) := (below_box w o).mono hb
set_option maxRecDepth 100000 in
theorem put_txt (base : Nat) (v : Value) (xs : List Nat) (k : Int) (n : Nat) (s : ByteArray) (w : World) (hb : base ≤ w.heap.size) (hk : k ≠ 5) (he : s.toList.isEmpty = false) :
    Calls Try.prog 83 #[v, .agg #[.int .i64 k, .int .u64 (n : Int), .string s]] w (PutPost w base xs ⟨k, n, s⟩) := by
  have hf : Stp.fits ⟨k, n, s⟩ = false := by
    unfold Stp.fits
    simp [he, hk]
  go_enter Try.func83, Try.ntmps83
  go_wp2
  go_ret2
  exact ⟨v, ret_t rfl hf.symm, below_ret hb _, fun h => by rw [hf] at h; cases h⟩
set_option maxRecDepth 100000 in
theorem put_else (base : Nat) (v : Value) (xs : List Nat) (k : Int) (n : Nat) (s : ByteArray) (w : World) (hb : base ≤ w.heap.size) (h0 : k ≠ 0) (h1 : k ≠ 1) (h2 : k ≠ 2) (h3 : k ≠ 3) (h4 : k ≠ 4) (h5 : k ≠ 5) (he : s.toList.isEmpty = true) :
    Calls Try.prog 83 #[v, .agg #[.int .i64 k, .int .u64 (n : Int), .string s]] w (PutPost w base xs ⟨k, n, s⟩) := by
  have hf : Stp.fits ⟨k, n, s⟩ = false := by
    unfold Stp.fits
    simp [h0, h1, h2, h3, h4, h5]
  go_enter Try.func83, Try.ntmps83
  go_wp2
  go_ret2
  exact ⟨v, ret_t rfl hf.symm, below_ret hb _, fun h => by rw [hf] at h; cases h⟩
theorem put_is (base : Nat) (v : Value) (xs : List Nat) (x : Stp) (w : World) (ho : w.ownsRow base 5 1 v xs.length (b8 xs)) (hb : base ≤ w.heap.size) (hx : x.Ok) (hl : xs.length + 10 + x.s.size ≤ 140737488351232) :
    Calls Try.prog 83 #[v, .agg #[.int .i64 x.k, .int .u64 (x.n : Int), .string x.s]] w (PutPost w base xs x) := by
  obtain ⟨k, n, s⟩ := x
  obtain ⟨_, hn, hs⟩ := hx
  simp only at hn hs hl ⊢
  by_cases h5 : k = 5
  · subst h5; exact put_5 base v xs n s w ho hb hl hn
  cases he : s.toList.isEmpty with
  | false => exact put_txt base v xs k n s w hb h5 he
  | true =>
    by_cases h0 : k = 0
    · subst h0; exact put_0 base v xs n s w ho hb hl hn he
    by_cases h1 : k = 1
    · subst h1; exact put_1 base v xs n s w ho hb hl hn he
    by_cases h2 : k = 2
    · subst h2; exact put_2 base v xs n s w ho hb hl hn he
    by_cases h3 : k = 3
    · subst h3; exact put_3 base v xs n s w ho hb hl hn he
    by_cases h4 : k = 4
    · subst h4; exact put_4 base v xs n s w ho hb hl hn he
    exact put_else base v xs k n s w hb h0 h1 h2 h3 h4 h5 he
end Go.Proofs.Ytfgjlplfpjfnoaa
