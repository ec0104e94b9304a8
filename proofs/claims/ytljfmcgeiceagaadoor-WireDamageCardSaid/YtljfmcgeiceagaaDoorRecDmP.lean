/- Damage is seen: in plain words. -/
import Derived.Test.YtljfmcgeiceagaaDoorD3
import Derived.Test.YtljfmcgeiceagaaDoorX1
namespace Go.Proofs.YtljfmcgeiceagaaDoor
open Go Go.RowKit
set_option linter.unusedVariables false
set_option linter.unusedSimpArgs false

theorem reg_inj (r : List Nat) {s s' : Nat} (hs : s < 2 ^ 32) (hs' : s' < 2 ^ 32) (h : Crc.reg s r = Crc.reg s' r) : s = s' := by
  have e : s' = s ^^^ (s ^^^ s') := by rw [← Nat.xor_assoc, Nat.xor_self, Nat.zero_xor]
  have h2 := Crc.reg_xor r s (s ^^^ s')
  rw [← e, ← h] at h2
  have h3 : Crc.Mi (8 * r.length) (s ^^^ s') = 0 := by
    have : Crc.reg s r ^^^ Crc.reg s r = Crc.reg s r ^^^ (Crc.reg s r ^^^ Crc.Mi (8 * r.length) (s ^^^ s')) := by rw [← h2]
    rw [Nat.xor_self, ← Nat.xor_assoc, Nat.xor_self, Nat.zero_xor] at this
    exact this.symm
  exact (Crc.xor_eq_zero_iff _ _).1 ((Crc.Mi_zero_iff _ (Crc.xor_lt hs hs')).1 h3)
/-- One to four bytes that are other ones turn the sum. -/
theorem ext_burst {s : Nat} (hs : s < 2 ^ 32) {l t u r : List Nat} (hl : By l) (ht : By t) (hu : By u) (hr : By r) (hlen : t.length = u.length) (h4 : t.length ≤ 4) (h : Crc.ext s (l ++ (t ++ r)) = Crc.ext s (l ++ (u ++ r))) : t = u := by
  unfold Crc.ext at h
  have h1 : Crc.reg (s ^^^ Crc.ones) (l ++ (t ++ r)) = Crc.reg (s ^^^ Crc.ones) (l ++ (u ++ r)) := by
    have := congrArg (· ^^^ Crc.ones) h
    simpa [Nat.xor_assoc, Nat.xor_self] using this
  rw [Crc.reg_append, Crc.reg_append, Crc.reg_append, Crc.reg_append] at h1
  have hx := Crc.reg_lt l _ (Crc.xor_lt hs Crc.ones_lt) hl
  obtain ⟨x, hxx⟩ : ∃ x, x = Crc.reg (s ^^^ Crc.ones) l := ⟨_, rfl⟩
  rw [← hxx] at h1 hx
  have h2 := reg_inj r (Crc.reg_lt t _ hx ht) (Crc.reg_lt u _ hx hu) h1
  rw [Pat.reg_num, Pat.reg_num, hlen] at h2
  have hp : ∀ {v : List Nat}, By v → v.length ≤ 4 → x ^^^ Pat.num v < 2 ^ 32 := fun {v} hv hv4 => Crc.xor_lt hx (Nat.lt_of_lt_of_le (Pat.num_lt v hv) (Nat.pow_le_pow_right (by omega) (by omega)))
  have h3 := Crc.Mi_inj (hp ht h4) (hp hu (by omega)) h2
  have h5 : Pat.num t = Pat.num u := by
    have := congrArg (x ^^^ ·) h3
    simpa [← Nat.xor_assoc, Nat.xor_self] using this
  exact Pat.num_inj t u ht hu hlen h5
/-- Bytes laid over others. -/
def over (x : List Nat) (p : Nat) (o : List Nat) : List Nat := x.take p ++ (o ++ x.drop (p + o.length))
theorem over_length {x o : List Nat} {p : Nat} (h : p + o.length ≤ x.length) : (over x p o).length = x.length := by
  unfold over
  simp only [List.length_append, List.length_take, List.length_drop]
  omega
theorem over_split {x : List Nat} {p k : Nat} (h : p + k ≤ x.length) : x = x.take p ++ ((x.drop p).take k ++ x.drop (p + k)) := by
  rw [show x.drop (p + k) = (x.drop p).drop k by rw [List.drop_drop], List.take_append_drop, List.take_append_drop]
theorem damage {B o : List Nat} {p : Nat} {q : Rc} (hB : By B) (hlB : B.length ≤ 1115) (ho : By o) (h1 : 1 ≤ o.length) (h4 : o.length ≤ 4) (hp : p + o.length ≤ B.length + 9) (h9 : 9 ≤ p ∨ p + o.length ≤ 9)
    (h : rdec (over (wrap 169 B) p o) = (q, B.length + 9, 0)) : over (wrap 169 B) p o = wrap 169 B := by
  have hlw := wrap_length 169 B
  have hlo := over_length (x := wrap 169 B) (o := o) (p := p) (by omega)
  obtain ⟨hre, hm, hn⟩ := renc_of_rdec h
  rw [renc, if_pos (may_chk hm)] at hre
  injection hre with hre _
  rw [List.take_of_length_le (by omega)] at hre
  have hbq := bdy_by hm
  obtain ⟨D, hD⟩ : ∃ D, D = bdy q := ⟨_, rfl⟩
  rw [← hD] at hre hbq
  have hlD : D.length = B.length := by
    have := congrArg List.length hre
    rw [wrap_length, hlo, hlw] at this
    omega
  obtain ⟨_, a1, a2, a3⟩ := wrap_parts 169 B
  obtain ⟨_, d1, d2, d3⟩ := wrap_parts 169 D
  rcases h9 with h9 | h9
  · have hpre : (over (wrap 169 B) p o).take 9 = (wrap 169 B).take 9 := by
      unfold over
      rw [List.take_append_of_le_length (by rw [List.length_take]; omega), List.take_take, show min 9 p = 9 by omega]
    have h5 : ((over (wrap 169 B) p o).drop 5).take 4 = ((wrap 169 B).drop 5).take 4 := by
      have := congrArg (List.drop 5) hpre
      rw [List.drop_take, List.drop_take] at this
      exact this
    rw [← hre, d2, a2] at h5
    have hc : crcOf D = crcOf B := by
      have := congrArg val h5
      rw [val_fx (crcOf_lt hbq), val_fx (crcOf_lt hB)] at this
      exact this
    have hd9 : D = ((wrap 169 B).take p).drop 9 ++ (o ++ (wrap 169 B).drop (p + o.length)) := by
      rw [← d3, hre]
      unfold over
      rw [List.drop_append_of_le_length (by rw [List.length_take]; omega)]
    have hb9 : B = ((wrap 169 B).take p).drop 9 ++ (((wrap 169 B).drop p).take o.length ++ (wrap 169 B).drop (p + o.length)) := by
      have := a3
      rw [over_split (x := wrap 169 B) (p := p) (k := o.length) (by omega), List.drop_append_of_le_length (by rw [List.length_take]; omega)] at this
      exact this.symm
    have hby := wrap_by (mark := 169) (by omega) hB
    unfold crcOf at hc
    rw [hlD] at hc
    have ht := ext_burst (s := Crc.ext 0 (fx B.length 4)) (ext0_lt (fx_by _ _)) (l := ((wrap 169 B).take p).drop 9) (t := o) (u := ((wrap 169 B).drop p).take o.length) (r := (wrap 169 B).drop (p + o.length)) ((hby.take p).drop 9) ho ((hby.drop p).take _) (hby.drop _) (by rw [List.length_take, List.length_drop]; omega) h4 (by rw [← hd9, ← hb9]; exact hc)
    have hs := over_split (x := wrap 169 B) (p := p) (k := o.length) (by omega)
    rw [← ht] at hs
    exact hs.symm
  · have hd9 : D = B := by
      have hl : ((wrap 169 B).take p ++ o).length = p + o.length := by
        rw [List.length_append, List.length_take]
        omega
      have e : (over (wrap 169 B) p o).drop 9 = (wrap 169 B).drop 9 := by
        unfold over
        rw [← List.append_assoc, List.drop_append, List.drop_of_length_le (by omega), List.nil_append, hl, List.drop_drop, show p + o.length + (9 - (p + o.length)) = 9 by omega]
      rw [← d3, hre, e, a3]
    rw [← hre, hd9]
end Go.Proofs.YtljfmcgeiceagaaDoor
