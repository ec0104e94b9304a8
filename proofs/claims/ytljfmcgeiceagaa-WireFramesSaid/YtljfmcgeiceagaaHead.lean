/- Heads of frames. -/
import Derived.Test.YtljfmcgeiceagaaFrm
namespace Go.Proofs.Ytljfmcgeiceagaa
open Go Go.RowKit
set_option linter.unusedVariables false
set_option linter.unusedSimpArgs false
set_option linter.unusedSectionVars false

theorem rd_sub {w : World} {g off p k : Nat} {bs : List Nat} (h : Rd w (some ⟨g, off, none⟩) (b8 bs)) : Rd w (some ⟨g, off + p, none⟩) (b8 ((bs.drop p).take k)) := by
  intro hne
  have hb : b8 bs ≠ [] := by
    rintro e
    have : bs = [] := by simpa [b8] using e
    subst this
    simp [b8] at hne
  obtain ⟨g', off', e, hg, hc⟩ := h hb
  injection e with e
  injection e with e1 e2 e3
  subst e1 e2
  refine ⟨g, off + p, rfl, hg, fun j u hu => ?_⟩
  have hj : j < k := by
    have := (List.getElem?_eq_some_iff.1 hu).1
    simp [b8] at this
    omega
  have hu2 : (b8 bs)[p + j]? = some u := by
    rw [b8_get] at hu ⊢
    rw [List.getElem?_take, if_pos hj, List.getElem?_drop] at hu
    exact hu
  have := hc _ _ hu2
  rw [Nat.add_assoc]
  exact this
theorem rd_rest {w : World} {g off p : Nat} {bs : List Nat} (h : Rd w (some ⟨g, off, none⟩) (b8 bs)) : Rd w (some ⟨g, off + p, none⟩) (b8 (bs.drop p)) := by
  have := rd_sub (p := p) (k := bs.length) h
  rw [List.take_of_length_le (by simp)] at this
  exact this
/-- The address of a row that is not empty. -/
theorem Rd.some_ {w : World} {A : Option Addr} {bs : List Nat} (h : Rd w A (b8 bs)) (hn : 0 < bs.length) : ∃ g off, A = some ⟨g, off, none⟩ ∧ g < w.heap.size ∧ w.cell? ⟨g, off, none⟩ = some (.int .u8 (bs.headD 0 : Nat)) := by
  obtain ⟨g, off, e, hg, hc⟩ := h (by rintro e; have : bs = [] := (by simpa [b8] using e); subst this; simp at hn)
  refine ⟨g, off, e, hg, ?_⟩
  cases bs with
  | nil => simp at hn
  | cons x r =>
    have := hc 0 (.int .u8 (x : Int)) (by simp [b8])
    simpa using this
theorem Turned.low {base : Nat} {W W' : World} {T : TypeId} {cf : Rs → Value → Array Value} {g : Nat} {v : Value} {s : Rs} (h : Turned base W T cf g v s W') (hb : base ≤ W.heap.size) : Below base W W' :=
  h.kept.below (fun q hq => by subst hq; exact h.rd.gb) hb
theorem take_all {seg : List Nat} {k : Nat} (h : seg.length = k) : ((⟨seg, 0, 0, 0⟩ : Rs).take (k : Int)).1 = seg := by
  simp [Rs.take, Rs.rest, h]
  rw [← h]
  simp
  rw [if_neg (by omega)]

/-- What a frame's first bytes tell. -/
def hd (b : List Nat) : Int × Int :=
  if 0 < b.length ∧ b.headD 0 ≠ 197 then (0, 160) else if b.length < 5 then (0, 10) else
  if val ((b.drop 1).take 4) = 0 then (0, 160) else if 4087 < val ((b.drop 1).take 4) then (9 + (val ((b.drop 1).take 4) : Int), 163) else (9 + (val ((b.drop 1).take 4) : Int), 0)
def HeadPost (w : World) (q : Int × Int) (e : Ending) (w' : World) : Prop := e = .returned (.tuple #[.int .i64 q.1, .int .i64 q.2]) ∧ Below w.heap.size w w'

section
variable (g off n c : Nat) (b : List Nat) (w : World) (hr : Rd w (some ⟨g, off, none⟩) (b8 b)) (hn : b.length = n) (hnc : n ≤ c) (hby : By b)
include hr hn hnc hby
set_option maxHeartbeats 400000 in
set_option maxRecDepth 100000 in
theorem head_long (h5 : 5 ≤ n) (h0 : w.cell? ⟨g, off, none⟩ = some (.int .u8 197)) (q : Int × Int)
    (hq : q = if val ((b.drop 1).take 4) = 0 then (0, 160) else if 4087 < val ((b.drop 1).take 4) then (9 + (val ((b.drop 1).take 4) : Int), 163) else (9 + (val ((b.drop 1).take 4) : Int), 0)) :
    Calls Try.prog 14 #[.slice (some ⟨g, off, none⟩) n c] w (HeadPost w q) := by
  have hseg : ((b.drop 1).take 4).length = 4 := by simp only [List.length_take, List.length_drop]; omega
  have hsby : By ((b.drop 1).take 4) := fun x hx => hby x (List.mem_of_mem_drop (List.mem_of_mem_take hx))
  have P1 := Lib.hid (newReader_is (some ⟨g, off + 1, none⟩) 4 (c - 1) ((b.drop 1).take 4) w (rd_sub (p := 1) (k := 4) hr) hseg hsby (by omega))
  have hlt := val_lt 4 _ hsby hseg
  unfold Newed at P1
  obtain ⟨seg, hsg⟩ : ∃ seg, seg = (b.drop 1).take 4 := ⟨_, rfl⟩
  rw [← hsg] at P1 hseg hq hlt
  have PU := Lib.hid (fun W g v (h : Rdr w.heap.size W 87 Rs.cells g v ⟨seg, 0, 0, 0⟩) => u32_r w.heap.size g v _ W h)
  have e4 := take_all hseg
  rw [show (((4 : Nat)) : Int) = 4 from rfl] at e4
  rw [e4] at PU
  unfold Gave at PU
  obtain ⟨z, hz⟩ : ∃ z, z = val seg := ⟨_, rfl⟩
  rw [← hz] at PU hq hlt
  have hz4 : z < 4294967296 := by simpa using hlt
  have hg := (by obtain ⟨g', off', e, hg', _⟩ := hr (by rintro e; have : b = [] := (by simpa [b8] using e); subst this; simp at hn; omega); injection e with e; injection e with e1; exact e1 ▸ hg' : g < w.heap.size)
  have hc1 : ¬ c = 1 := by omega
  clear hr hn hby hsby hsg e4 hz hlt hseg
  by_cases hz0 : z = 0
  · rw [if_pos hz0] at hq
    subst hz0
    go_enter Try.func14, Try.ntmps14
    go_wp2_with fail
    refine P1.out.mono ?_
    rintro e w1 ⟨g1, v1, rfl, hr1, hb1⟩
    have HR1 := Lib.hid hr1
    have B1 := Lib.hid hb1
    clear hr1 hb1
    go_wp2_with fail
    refine (PU.out w1 g1 v1 HR1.out).mono ?_
    rintro e w2 ⟨rfl, ht⟩
    have B2 := Lib.hid (B1.out.trans (ht.low B1.out.size))
    clear ht
    go_wp2_with fail
    go_ret2
    rw [hq]
    exact ⟨rfl, B2.out⟩
  · rw [if_neg hz0] at hq
    by_cases hz1 : 4087 < z
    · rw [if_pos hz1] at hq
      go_enter Try.func14, Try.ntmps14
      go_wp2_with fail
      refine P1.out.mono ?_
      rintro e w1 ⟨g1, v1, rfl, hr1, hb1⟩
      have HR1 := Lib.hid hr1
      have B1 := Lib.hid hb1
      clear hr1 hb1
      go_wp2_with fail
      refine (PU.out w1 g1 v1 HR1.out).mono ?_
      rintro e w2 ⟨rfl, ht⟩
      have B2 := Lib.hid (B1.out.trans (ht.low B1.out.size))
      clear ht
      go_wp2_with fail
      go_ret2
      rw [hq]
      exact ⟨rfl, B2.out⟩
    · rw [if_neg hz1] at hq
      go_enter Try.func14, Try.ntmps14
      go_wp2_with fail
      refine P1.out.mono ?_
      rintro e w1 ⟨g1, v1, rfl, hr1, hb1⟩
      have HR1 := Lib.hid hr1
      have B1 := Lib.hid hb1
      clear hr1 hb1
      go_wp2_with fail
      refine (PU.out w1 g1 v1 HR1.out).mono ?_
      rintro e w2 ⟨rfl, ht⟩
      have B2 := Lib.hid (B1.out.trans (ht.low B1.out.size))
      clear ht
      go_wp2_with fail
      go_ret2
      rw [hq]
      exact ⟨rfl, B2.out⟩
end

theorem headPost_eq {w w' : World} {q r : Int × Int} {e : Ending} (h : HeadPost w q e w') (hq : q = r) : HeadPost w r e w' := hq ▸ h
set_option maxRecDepth 100000 in
theorem head_is (A : Option Addr) (n c : Nat) (b : List Nat) (w : World) (hr : Rd w A (b8 b)) (hn : b.length = n) (hnc : n ≤ c) (hby : By b) (hl : n ≤ 140737488355328) :
    Calls Try.prog 14 #[.slice A n c] w (HeadPost w (hd b)) := by
  unfold hd
  rw [hn]
  rcases Nat.eq_zero_or_pos n with h0 | h0
  · subst h0
    rw [if_neg (by omega), if_pos (by omega)]
    clear hr hn hby
    go_enter Try.func14, Try.ntmps14
    go_wp2
    go_ret2
    exact ⟨rfl, Below.refl _ _⟩
  · obtain ⟨g, off, rfl, hg, hcell⟩ := hr.some_ (by omega)
    by_cases hm : b.headD 0 = 197
    · rw [if_neg (by rintro ⟨_, h⟩; exact h hm)]
      rw [hm] at hcell
      by_cases h5 : n < 5
      · rw [if_pos h5]
        have i0 : (0 : Int) < (n : Int) := by omega
        clear hr hn hby
        go_enter Try.func14, Try.ntmps14
        go_wp2
        go_ret2
        exact ⟨rfl, Below.refl _ _⟩
      · rw [if_neg h5]
        exact head_long g off n c b w hr hn hnc hby (by omega) hcell _ rfl
    · rw [if_pos ⟨h0, hm⟩]
      have i0 : (0 : Int) < (n : Int) := by omega
      have hne : ((b.headD 0 : Nat) : Int) ≠ 197 := by omega
      have hnb : (((b.headD 0 : Nat) : Int) != 197) = true := by rw [bne_iff_ne]; exact hne
      obtain ⟨x, hx⟩ : ∃ x, x = b.headD 0 := ⟨_, rfl⟩
      rw [← hx] at hcell hne hnb
      clear hr hn hby hm hx
      go_enter Try.func14, Try.ntmps14
      go_wp2
      go_ret2
      exact ⟨rfl, Below.refl _ _⟩

section
variable (g off n c : Nat) (b : List Nat) (w : World) (hr : Rd w (some ⟨g, off, none⟩) (b8 b)) (hn : b.length = n) (hnc : n ≤ c) (hby : By b)
include hr hn hnc hby
set_option maxHeartbeats 400000 in
set_option maxRecDepth 100000 in
theorem rhead_long (h5 : 5 ≤ n) (h0 : w.cell? ⟨g, off, none⟩ = some (.int .u8 197)) (q : Int × Int)
    (hq : q = if val ((b.drop 1).take 4) = 0 then (0, 160) else if 4087 < val ((b.drop 1).take 4) then (9 + (val ((b.drop 1).take 4) : Int), 163) else (9 + (val ((b.drop 1).take 4) : Int), 0)) :
    Calls Try.prog 16 #[.slice (some ⟨g, off, none⟩) n c] w (HeadPost w q) := by
  have hseg : ((b.drop 1).take 4).length = 4 := by simp only [List.length_take, List.length_drop]; omega
  have hsby : By ((b.drop 1).take 4) := fun x hx => hby x (List.mem_of_mem_drop (List.mem_of_mem_take hx))
  have hsr := rd_sub (p := 1) (k := 4) hr
  obtain ⟨seg, hsg⟩ : ∃ seg, seg = (b.drop 1).take 4 := ⟨_, rfl⟩
  rw [← hsg] at hseg hsby hsr hq
  have HS := Lib.hid hseg
  have HY := Lib.hid hsby
  have HR := Lib.hid hsr
  have HQ := Lib.hid hq
  have hg := (by obtain ⟨g', off', e, hg', _⟩ := hr (by rintro e; have : b = [] := (by simpa [b8] using e); subst this; simp at hn; omega); injection e with e; injection e with e1; exact e1 ▸ hg' : g < w.heap.size)
  have i0 : (0 : Int) < (n : Int) := by omega
  clear hr hn hby hseg hsby hsr hsg hq
  go_enter Try.func16, Try.ntmps16
  go_wp2
  go_loop [4, 5] (fun x i => ∃ k : Nat, k ≤ 4 ∧ i = .int .i64 ((k : Int) + 1) ∧ x = .int .i64 (val (seg.take k) : Nat)) (fun _ i => 5 - (intOf i).toNat)
  case atStart => exact ⟨0, Nat.zero_le _, rfl, rfl⟩
  case round =>
    obtain ⟨k, hk, rfl, rfl⟩ := hrel
    by_cases hlt : k < 4
    · obtain ⟨x, hx⟩ : ∃ x, seg[k]? = some x := ⟨_, List.getElem?_eq_getElem (by rw [HS.out]; exact hlt)⟩
      have hxl := HY.out x (List.mem_of_getElem? hx)
      obtain ⟨gA, offA, e, hgA, hcell⟩ := HR.out (by rintro e; have : seg = [] := (by simpa [b8] using e); subst this; simp at hx)
      injection e with e
      injection e with e1 e2 _
      subst e1 e2
      have d0 := hcell k (.int .u8 (x : Int)) (by rw [b8_get, hx]; rfl)
      rw [show off + 1 + k = off + (k + 1) by omega] at d0
      have hv := val_lt k (seg.take k) (fun b hb => HY.out b (List.mem_of_mem_take hb)) (by simp; have := HS.out; omega)
      have hv2 : val (seg.take k) < 16777216 := by
        have h2 : (256 : Nat) ^ k ≤ 256 ^ 3 := Nat.pow_le_pow_right (by omega) (by omega)
        have h3 : (256 : Nat) ^ 3 = 16777216 := by decide
        omega
      have HV := Lib.hid (val_take hx)
      obtain ⟨z, hz⟩ : ∃ z, z = val (seg.take k) := ⟨_, rfl⟩
      rw [← hz] at HV hv2 ⊢
      have i2 : (0 : Int) ≤ (k : Int) + 1 := by omega
      have i3 : (k : Int) + 1 < (n : Int) := by omega
      have i4 : ((k : Int) + 1).toNat = k + 1 := by omega
      clear hcell hx hv hz
      go_wp2
      go_round
      case rel => exact ⟨k + 1, by omega, by go_num, by rw [HV.out]; go_num⟩
      case measure => simp [intOf]; omega
    · have e0 : seg.take k = seg := List.take_of_length_le (by rw [HS.out]; omega)
      have hzl := val_lt 4 seg HY.out HS.out
      rw [e0]
      have hq := HQ.out
      obtain ⟨z, hz⟩ : ∃ z, z = val seg := ⟨_, rfl⟩
      rw [← hz] at hzl hq ⊢
      have hz4 : z < 4294967296 := by simpa using hzl
      have hk4 : k = 4 := by omega
      subst hk4
      clear e0 HR HY HS hz hzl HQ
      by_cases hz0 : z = 0
      · rw [if_pos hz0] at hq
        subst hz0
        go_wp2
        go_ret2
        exact ⟨rfl, Below.refl _ _⟩
      · rw [if_neg hz0] at hq
        by_cases hz1 : 4087 < z
        · rw [if_pos hz1] at hq
          go_wp2
          go_ret2
          exact ⟨by rw [Int.add_comm]; rfl, Below.refl _ _⟩
        · rw [if_neg hz1] at hq
          go_wp2
          go_ret2
          exact ⟨by rw [Int.add_comm]; rfl, Below.refl _ _⟩
end
set_option maxRecDepth 100000 in
theorem rhead_is (A : Option Addr) (n c : Nat) (b : List Nat) (w : World) (hr : Rd w A (b8 b)) (hn : b.length = n) (hnc : n ≤ c) (hby : By b) (hl : n ≤ 140737488355328) :
    Calls Try.prog 16 #[.slice A n c] w (HeadPost w (hd b)) := by
  unfold hd
  rw [hn]
  rcases Nat.eq_zero_or_pos n with h0 | h0
  · subst h0
    rw [if_neg (by omega), if_pos (by omega)]
    clear hr hn hby
    go_enter Try.func16, Try.ntmps16
    go_wp2
    go_ret2
    exact ⟨rfl, Below.refl _ _⟩
  · obtain ⟨g, off, rfl, hg, hcell⟩ := hr.some_ (by omega)
    by_cases hm : b.headD 0 = 197
    · rw [if_neg (by rintro ⟨_, h⟩; exact h hm)]
      rw [hm] at hcell
      by_cases h5 : n < 5
      · rw [if_pos h5]
        have i0 : (0 : Int) < (n : Int) := by omega
        clear hr hn hby
        go_enter Try.func16, Try.ntmps16
        go_wp2
        go_ret2
        exact ⟨rfl, Below.refl _ _⟩
      · rw [if_neg h5]
        exact rhead_long g off n c b w hr hn hnc hby (by omega) hcell _ rfl
    · rw [if_pos ⟨h0, hm⟩]
      have i0 : (0 : Int) < (n : Int) := by omega
      have hne : ((b.headD 0 : Nat) : Int) ≠ 197 := by omega
      have hnb : (((b.headD 0 : Nat) : Int) != 197) = true := by rw [bne_iff_ne]; exact hne
      obtain ⟨x, hx⟩ : ∃ x, x = b.headD 0 := ⟨_, rfl⟩
      rw [← hx] at hcell hne hnb
      clear hr hn hby hm hx
      go_enter Try.func16, Try.ntmps16
      go_wp2
      go_ret2
      exact ⟨rfl, Below.refl _ _⟩
end Go.Proofs.Ytljfmcgeiceagaa
