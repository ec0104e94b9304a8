/- OctetBurst: its walk. -/
import Derived.Test.YtfgjlplfpjfnoaaSums
import Derived.Test.YtfgjlplfpjfnoaaOctSame
import Derived.RegionTactic
import Derived.Lib.SlBytesConst
import Derived.BigRegion
namespace Go.Proofs.Ytfgjlplfpjfnoaa
open Go Go.RowKit
set_option linter.unusedVariables false

theorem burst_step (mk i a n : Nat) (h : a + i < 8 * n) : Crc.Mi (8 * n - a) (mk ^^^ 2 ^ i) = Crc.Mi (8 * n - a) mk ^^^ Crc.Mi (8 * n - (a + i)) 1 := by
  rw [Crc.Mi_xor]
  congr 1
  have e : 8 * n - a = i + (8 * n - (a + i)) := by omega
  rw [e, Crc.Mi_add]
  have := Crc.Mi_pow i 1
  rw [Nat.mul_one] at this
  rw [this]

/-- What the turned bits have made of the text so far. -/
def Turned (bs cs : List Nat) (a mk i : Nat) : Prop :=
  cs.length = bs.length ∧ By cs ∧ mk < 2 ^ i ∧ Crc.reg Crc.ones cs = Crc.reg Crc.ones bs ^^^ Crc.Mi (8 * bs.length - a) mk

theorem turned_start (bs : List Nat) (a : Nat) (h : By bs) : Turned bs bs a 0 0 := ⟨rfl, h, by simp, by rw [Crc.Mi_zero, Nat.xor_zero]⟩
theorem turned_keep {bs cs : List Nat} {a mk i : Nat} (h : Turned bs cs a mk i) : Turned bs cs a mk (i + 1) :=
  ⟨h.1, h.2.1, Nat.lt_of_lt_of_le h.2.2.1 (Nat.pow_le_pow_right (by omega) (by omega)), h.2.2.2⟩
theorem turned_more {bs cs : List Nat} {a mk i c : Nat} (h : Turned bs cs a mk i) (hp : a + i < 8 * bs.length) (hc : cs[(a + i) / 8]? = some c) :
    Turned bs (cs.set ((a + i) / 8) (c ^^^ 2 ^ ((a + i) % 8))) a (mk ^^^ 2 ^ i) (i + 1) ∧ mk ^^^ 2 ^ i ≠ 0 := by
  obtain ⟨h1, h2, h3, h4⟩ := h
  have h2i : 2 ^ i < 2 ^ (i + 1) := Nat.pow_lt_pow_right (by omega) (by omega)
  refine ⟨⟨by simpa using h1, ?_, Nat.xor_lt_two_pow (by omega) h2i, ?_⟩, ?_⟩
  · intro b hb
    rcases List.mem_or_eq_of_mem_set hb with hb | rfl
    · exact h2 b hb
    · have hc256 := h2 c (List.mem_of_getElem? hc)
      have : 2 ^ ((a + i) % 8) < 2 ^ 8 := Nat.pow_lt_pow_right (by omega) (by omega)
      exact Nat.xor_lt_two_pow (n := 8) hc256 this
  · rw [Crc.reg_flip cs _ _ c hc, h4, h1, burst_step mk i a _ hp, Nat.xor_assoc]
  · intro e
    have := (Crc.xor_eq_zero_iff mk (2 ^ i)).1 e
    omega
theorem turned_end {bs cs : List Nat} {a mk i : Nat} (h : Turned bs cs a mk i) (hi : i ≤ 32) : Crc.ext 0 bs = Crc.ext 0 cs ↔ mk = 0 := by
  obtain ⟨h1, h2, h3, h4⟩ := h
  have hm : mk < 2 ^ 32 := Nat.lt_of_lt_of_le h3 (Nat.pow_le_pow_right (by omega) hi)
  unfold Crc.ext
  rw [Nat.zero_xor, h4]
  constructor
  · intro e
    have e2 : Crc.Mi (8 * bs.length - a) mk = 0 := by
      have := congrArg (fun z => z ^^^ (Crc.reg Crc.ones bs ^^^ Crc.ones)) e
      simp only [Nat.xor_self] at this
      rw [Crc.xor4, Nat.xor_self, Nat.xor_zero] at this
      have e3 : (Crc.reg Crc.ones bs ^^^ Crc.Mi (8 * bs.length - a) mk) ^^^ Crc.reg Crc.ones bs = Crc.Mi (8 * bs.length - a) mk ^^^ (Crc.reg Crc.ones bs ^^^ Crc.reg Crc.ones bs) := by ac_rfl
      rw [e3, Nat.xor_self, Nat.xor_zero] at this
      exact this.symm
    exact (Crc.Mi_zero_iff _ hm).1 e2
  · rintro rfl
    rw [Crc.Mi_zero, Nat.xor_zero]

theorem flip_bits (c p : Nat) (hc : c < 256) (hp : p < 8) : bits .xor .u8 (c : Int) (2 ^ p % 256) = ((c ^^^ 2 ^ p : Nat) : Int) := by
  have h2 : 2 ^ p < 2 ^ 8 := Nat.pow_lt_pow_right (by omega) hp
  have e : ((2 : Int) ^ p) % 256 = ((2 ^ p : Nat) : Int) := by
    have h3 : ((2 : Int) ^ p) = ((2 ^ p : Nat) : Int) := (Int.natCast_pow 2 p).symm
    rw [h3]
    generalize 2 ^ p = z at h2 ⊢
    exact Int.emod_eq_of_lt (Int.natCast_nonneg _) (by omega)
  rw [e]
  exact u8_xor_nat c (2 ^ p) hc h2

/-- A marked block of bytes, read. -/
theorem rd_marked (w : World) (cs : List Value) (e : TypeId) (m : Nat × Nat) : Rd (w.alloc (.cells cs.toArray e m)) (some ⟨w.heap.size, 0, none⟩) cs := by
  intro _
  refine ⟨w.heap.size, 0, rfl, by simp, fun k u hu => ?_⟩
  have h := cell_of_row (w.alloc (.cells cs.toArray e m)) w.heap.size k cs.toArray e m (heap_alloc_new w _)
  rw [Nat.zero_add, h]
  simpa using hu

def nine : List Nat := [49, 50, 51, 52, 53, 54, 55, 56, 57]
theorem ext_nine : Crc.ext 0 nine = 3808858755 := by decide +kernel

set_option maxHeartbeats 1000000 in
set_option maxRecDepth 100000 in
theorem octetBurst_walk (A0 : Option Addr) (c0 : Nat) (b0 : List Nat) (a1 : Int) (a2 : Nat) (w : World) (c0l : b0.length ≤ c0) (r0 : Rd w A0 (b8 b0)) (y0 : By b0) (l0 : b0.length ≤ 140737488351232) (w1 : -9223372036854775808 ≤ a1 ∧ a1 ≤ 9223372036854775807) (w2 : a2 < 4294967296) :
    Calls Try.prog 7 #[.slice A0 b0.length c0, .int .i64 a1, .int .u32 (a2 : Int)] w fun e w' => e = .returned (.bool true) ∧ Below w.heap.size w w' := by
  obtain ⟨w1a, w1b⟩ := w1
  have h0 := own_lit w w.heap.size [] 5 0 (Nat.le_refl _) (by decide) rfl
  have hr1 : Rd (w.alloc (.cells [].toArray 5)) A0 (b8 b0) := r0.below ((Below.refl _ _).alloc (Nat.le_refl _) _)
  have kc := fun (w : World) (C : Array Value) (n c : Nat) => Lib.run_convert_bytes_const (P := Try.prog) w 22 5 C n c Try.underlying22 Try.underlying5
  go_enter Try.func7, Try.ntmps7
  go_wp2_with (at_builtin; refine app8 _ rfl (.tmp 10) (.tmp 11) rfl w.heap.size _ 0 [] rfl h0 A0 _ c0 b0 rfl rfl hr1 (by omega) (by simp) ?_; intro v3 w3 hown3 hg3 _)
  obtain ⟨A3, c3, hv3, hc3, _, hA3⟩ := own_shape hown3
  subst hv3
  have b3 : Below w.heap.size w w3 := ((Below.refl _ _).alloc (Nat.le_refl _) _).trans (below_of_grown hg3 (by simp) (fun k hk => (h0.lt k hk).1))
  simp only [Nat.zero_add, List.nil_append] at hown3 hc3 ⊢
  clear hg3 h0 hr1
  go_loopw [8, 9] (fun t i wr => ∃ (k mk : Nat) (cs : List Nat), k ≤ 32 ∧ i = .int .i64 k ∧ t = .bool (!decide (mk = 0)) ∧ wr.ownsRow w.heap.size 5 1 (.slice A3 b0.length c3) b0.length (b8 cs) ∧ Below w.heap.size w wr ∧ Hid (Turned b0 cs a1.toNat mk k)) (fun _ i _ => 32 - (intOf i).toNat)
  case atStart => exact ⟨0, 0, b0, by omega, rfl, rfl, hown3, b3, turned_start b0 _ y0⟩
  case round =>
    obtain ⟨k, mk, cs, hk, rfl, rfl, hown, hb, HT⟩ := hrel
    by_cases hlt : k < 32
    · by_cases hC : (0 ≤ a1 ∧ a1 < 8 * (b0.length : Int)) ∧ a1 + (k : Int) < 8 * (b0.length : Int) ∧ (((a2 : Int) / 2 ^ k).tmod 2 == 1) = true
      · obtain ⟨⟨hC1, hC2⟩, hC3, hC4⟩ := hC
        obtain ⟨a, rfl⟩ := Int.eq_ofNat_of_zero_le hC1
        have hp : a + k < 8 * b0.length := by omega
        have hlen : cs.length = b0.length := HT.out.1
        obtain ⟨j, hj⟩ : ∃ j, j = (a + k) / 8 := ⟨_, rfl⟩
        have hjl : j < cs.length := by omega
        obtain ⟨c, hc, hc256, _⟩ := HT.out.2.1.get hjl
        obtain ⟨g, off, rfl, hg, hcell⟩ := (rd_own hown).at_ hc
        have hoff : off = 0 := by
          rcases hown.2 with ⟨hv, _⟩ | ⟨g', cap, cur, hv, _⟩
          · simp at hv
          · simp at hv; exact hv.1.2
        subst hoff
        have hf := hown.frozenAt j
        rw [Nat.zero_add] at hcell
        have q1 : ((a : Int) + (k : Int)) / 8 = (j : Int) := by omega
        have q2 : (0 : Int) ≤ (j : Int) := by omega
        have q3 : (j : Int) < (b0.length : Int) := by omega
        obtain ⟨T1, T2⟩ := turned_more HT.out (by simpa using hp) (by simpa [← hj] using hc)
        simp only [Int.toNat_natCast, ← hj] at T1
        have hst := hown.stored j (.int .u8 ((c ^^^ 2 ^ ((a + k) % 8) : Nat) : Int))
        rw [b8_set'', ← flip_bits c ((a + k) % 8) hc256 (by omega)] at hst
        have HS := Lib.hid hst
        have T1' := Lib.hid T1
        have T2' := Lib.hid T2
        have hgb := (hA3 _ rfl).1
        clear hj hst T1 T2 hlen hc hown hjl hA3
        go_wp2_with fail
        go_region
        go_wp2_with fail
        go_roundw
        case rel => exact ⟨k + 1, _, _, by omega, by go_num, by rw [decide_eq_false T2'.out]; rfl, HS.out.1.drew, (hb.trans (below_of_grown HS.out.2 (by have := hb.size; omega) (fun i hi => by injection hi with hi; subst hi; exact hgb))).drew, T1'⟩
        case measure => simp [intOf]; omega
      · have HK := Lib.hid (turned_keep HT.out)
        have HC := Lib.hid hC
        clear hC
        go_wp2_with fail
        all_goals
          first
            | (exfalso; exact HC.out ⟨⟨by assumption, by assumption⟩, by assumption, by assumption⟩)
            | skip
        all_goals
          go_roundw
          case rel => exact ⟨k + 1, mk, cs, by omega, by go_num, rfl, hown, hb, HK⟩
          case measure => simp [intOf]; omega
    · have hk32 : k = 32 := by omega
      subst hk32
      have hE := turned_end HT.out (by omega)
      have hlen := HT.out.1
      have hcby := HT.out.2.1
      go_wp2_with fail
      refine (sum_any A0 _ c0 b0 wr (r0.below hb) y0 rfl (by omega)).mono ?_
      rintro e w4 ⟨rfl, hb4⟩
      go_wp2_with fail
      refine (sum_any A3 _ c3 cs w4 (rd_own (own_below hown hb4)) hcby hlen (by omega)).mono ?_
      rintro e w5 ⟨rfl, hb5⟩
      obtain ⟨x, hx⟩ : ∃ x, x = Crc.ext 0 b0 := ⟨_, rfl⟩
      obtain ⟨y, hy⟩ : ∃ y, y = Crc.ext 0 cs := ⟨_, rfl⟩
      rw [← hx, ← hy] at hE ⊢
      have hq : ((x : Int) == (y : Int)) = decide (mk = 0) := by
        rw [Bool.eq_iff_iff, beq_iff_eq, decide_eq_true_eq, ← hE]
        omega
      have hB : Below w.heap.size w w5 := (hb.trans (hb4.mono hb.size)).trans (hb5.mono (Nat.le_trans hb.size hb4.size))
      clear hE hx hy hb4 hb5 hown hb
      go_wp2_with fail
      refine (sum_any _ 9 9 nine _ (rd_marked w5 (b8 nine) _ _) (By.of_all (by decide)) rfl (by omega)).mono ?_
      rintro e w6 ⟨rfl, hb6⟩
      rw [ext_nine]
      go_wp2_with fail
      go_ret
      exact ⟨rfl, hB.trans (((Below.refl _ _).alloc (Nat.le_refl _) _).trans (hb6.mono (by simp)) |>.mono hB.size)⟩
end Go.Proofs.Ytfgjlplfpjfnoaa
