/- Blocks sorted and merged, in plain words. -/
import Derived.Test.YthcmkjiemlfpcaaStbP
namespace Go.Proofs.Ythcmkjiemlfpcaa
open Go Go.Sort
set_option linter.unusedVariables false
set_option linter.unusedSimpArgs false
variable {α : Type} [Inhabited α]

/-- Cuts at the multiples of s: of a later one against an earlier one the two orders agree. -/
def AgX (lt lt' : α → α → Bool) (s n : Nat) (d : Array α) : Prop := ∀ k i j, i < k * s → k * s ≤ j → j < n → lt d[j]! d[i]! = lt' d[j]! d[i]!
theorem AgX.perm {lt lt' : α → α → Bool} {s n k0 a b : Nat} {d d' : Array α} (h : AgX lt lt' s n d) (hp : PermIn a b d d') (h1 : k0 * s ≤ a) (h2 : b ≤ (k0 + 1) * s) (hb : b ≤ n) (hn : n ≤ d.size) : AgX lt lt' s n d' := by
  intro k i j hi hj hjn
  rcases Nat.lt_or_ge k0 k with hk | hk
  · have hc : (k0 + 1) * s ≤ k * s := Nat.mul_le_mul_right s hk
    rw [hp.2.1 j (.inr (by omega))]
    by_cases hia : a ≤ i ∧ i < b
    · exact permIn_all d d' a b (fun z => lt d[j]! z = lt' d[j]! z) (by omega) hp (fun x x1 x2 => h k x j (by omega) hj hjn) i hia.1 hia.2
    · rw [hp.2.1 i (by omega)]
      exact h k i j hi hj hjn
  · have hc : k * s ≤ k0 * s := Nat.mul_le_mul_right s hk
    rw [hp.2.1 i (.inl (by omega))]
    by_cases hja : a ≤ j ∧ j < b
    · exact permIn_all d d' a b (fun z => lt z d[i]! = lt' z d[i]!) (by omega) hp (fun x x1 x2 => h k i x hi (by omega) (by omega)) j hja.1 hja.2
    · rw [hp.2.1 j (by omega)]
      exact h k i j hi hj hjn
theorem AgX.dbl {lt lt' : α → α → Bool} {s n : Nat} {d : Array α} (h : AgX lt lt' s n d) : AgX lt lt' (2 * s) n d := by
  intro k i j hi hj hjn
  have e : k * (2 * s) = (k * 2) * s := by rw [Nat.mul_assoc]
  exact h (k * 2) i j (by omega) (by omega) hjn
/-- The whole blocks of s below a lie sorted. -/
def SB (lt' : α → α → Bool) (s a : Nat) (d : Array α) : Prop := ∀ k, (k + 1) * s ≤ a → SortedIn lt' (k * s) ((k + 1) * s) d
theorem SB.perm {lt' : α → α → Bool} {s a b c : Nat} {d d' : Array α} (h : SB lt' s a d) (hp : PermIn b c d d') (hab : a ≤ b) : SB lt' s a d' := by
  intro k hk i j h1 h2 h3
  rw [hp.2.1 i (.inl (by omega)), hp.2.1 j (.inl (by omega))]
  exact h k hk i j h1 h2 h3
theorem SB.next {lt' : α → α → Bool} {s k : Nat} {d : Array α} (h : SB lt' s (k * s) d) (h2 : SortedIn lt' (k * s) ((k + 1) * s) d) : SB lt' s ((k + 1) * s) d := by
  intro q hq
  rcases Nat.lt_trichotomy q k with hc | hc | hc
  · exact h q (Nat.mul_le_mul_right s hc)
  · subst hc
    exact h2
  · have h3 : (k + 1) * s ≤ q * s := Nat.mul_le_mul_right s hc
    intro i j i1 i2 i3
    omega
/-- Blocks of s, the last one maybe shorter, each sorted. -/
structure Stg (lt lt' : α → α → Bool) (s n : Nat) (d0 d : Array α) : Prop where
  perm : PermIn 0 n d0 d
  ag : AgX lt lt' s n d
  srt : ∀ k, SortedIn lt' (k * s) (min ((k + 1) * s) n) d
/-- Under way from blocks of s (d) to blocks of 2 s: k of these are done. -/
structure Mid (lt lt' : α → α → Bool) (s n k : Nat) (d dj : Array α) : Prop where
  perm : PermIn 0 (k * (2 * s)) d dj
  ag : AgX lt lt' (2 * s) n dj
  srt : SB lt' (2 * s) (k * (2 * s)) dj
theorem Stg.mid {lt lt' : α → α → Bool} {s n : Nat} {d0 d : Array α} (h : Stg lt lt' s n d0 d) : Mid lt lt' s n 0 d d := by
  refine ⟨permIn_refl d 0 _, h.ag.dbl, ?_⟩
  intro k hk i j i1 i2 i3
  omega
/-- What symMerge is handed. -/
theorem Mid.pre {lt lt' : α → α → Bool} {s n k a b : Nat} {d0 d dj : Array α} (h : Mid lt lt' s n k d dj) (h0 : Stg lt lt' s n d0 d) (ha : a = k * (2 * s)) (hb : b ≤ a + 2 * s) (hbn : b ≤ n) (hm : a + s ≤ b) :
    SortedIn lt' a (a + s) dj ∧ SortedIn lt' (a + s) b dj ∧ ∀ i j, a ≤ i → i < a + s → a + s ≤ j → j < b → lt dj[j]! dj[i]! = lt' dj[j]! dj[i]! := by
  have e1 : (k * 2) * s = a := by rw [ha, Nat.mul_assoc]
  have e2 : (k * 2 + 1) * s = a + s := by rw [Nat.succ_mul, e1]
  have e3 : (k * 2 + 1 + 1) * s = a + s + s := by rw [Nat.succ_mul, e2]
  have same : ∀ x, a ≤ x → dj[x]! = d[x]! := fun x hx => h.perm.2.1 x (.inr (by omega))
  refine ⟨?_, ?_, ?_⟩
  · intro i j i1 i2 i3
    rw [same i i1, same j (by omega)]
    exact h0.srt (k * 2) i j (by omega) i2 (by rw [e2]; omega)
  · intro i j i1 i2 i3
    rw [same i (by omega), same j (by omega)]
    exact h0.srt (k * 2 + 1) i j (by omega) i2 (by rw [e3]; omega)
  · intro i j i1 i2 i3 i4
    rw [same i i1, same j (by omega)]
    exact h0.ag (k * 2 + 1) i j (by omega) (by omega) (by omega)
theorem Mid.step {lt lt' : α → α → Bool} {s n k a b : Nat} {d dj d' : Array α} (h : Mid lt lt' s n k d dj) (ha : a = k * (2 * s)) (hb : b = a + 2 * s) (hbn : b ≤ n) (hn : n ≤ d.size) (hm : Mrg lt' a b dj d') : Mid lt lt' s n (k + 1) d d' ∧ b = (k + 1) * (2 * s) := by
  have e : (k + 1) * (2 * s) = b := by rw [Nat.succ_mul, ← ha, hb]
  have hsz : dj.size = d.size := h.perm.1
  refine ⟨⟨?_, ?_, ?_⟩, e.symm⟩
  · rw [e]
    exact permIn_trans _ _ _ _ _ (permIn_mono _ _ 0 (k * (2 * s)) 0 b (Nat.le_refl _) (by omega) (by omega) h.perm) (permIn_mono _ _ a b 0 b (Nat.zero_le _) (Nat.le_refl _) (by omega) hm.1)
  · exact h.ag.perm (k0 := k) hm.1 (by omega) (by omega) hbn (by omega)
  · refine (h.srt.perm hm.1 (by omega)).next ?_
    rw [e, ← ha]
    exact hm.2
/-- The last block of 2 s, which may be short. -/
theorem Mid.fin {lt lt' : α → α → Bool} {s n k a : Nat} {d0 d dj d' : Array α} (h : Mid lt lt' s n k d dj) (h0 : Stg lt lt' s n d0 d) (ha : a = k * (2 * s)) (han : a ≤ n) (hn : n < a + 2 * s) (hd : n ≤ d0.size) (hm : Mrg lt' a n dj d') : Stg lt lt' (2 * s) n d0 d' := by
  have e : (k + 1) * (2 * s) = a + 2 * s := by rw [Nat.succ_mul, ← ha]
  have hsz0 : d.size = d0.size := h0.perm.1
  have hsz : dj.size = d.size := h.perm.1
  refine ⟨?_, ?_, ?_⟩
  · exact permIn_trans _ _ _ _ _ h0.perm (permIn_trans _ _ _ _ _ (permIn_mono _ _ 0 (k * (2 * s)) 0 n (Nat.le_refl _) (by omega) (by omega) h.perm) (permIn_mono _ _ a n 0 n (Nat.zero_le _) (Nat.le_refl _) (by omega) hm.1))
  · exact h.ag.perm (k0 := k) hm.1 (by omega) (by omega) (Nat.le_refl _) (by omega)
  · intro q i j i1 i2 i3
    rcases Nat.lt_trichotomy q k with hc | hc | hc
    · have h3 : (q + 1) * (2 * s) ≤ k * (2 * s) := Nat.mul_le_mul_right (2 * s) hc
      exact (h.srt.perm hm.1 (by omega)) q (by omega) i j i1 i2 (by omega)
    · subst hc
      exact hm.2 i j (by omega) i2 (by omega)
    · have h3 : (k + 1) * (2 * s) ≤ q * (2 * s) := Nat.mul_le_mul_right (2 * s) hc
      omega
theorem Mid.rest {lt lt' : α → α → Bool} {s n k a : Nat} {d0 d dj : Array α} (h : Mid lt lt' s n k d dj) (h0 : Stg lt lt' s n d0 d) (ha : a = k * (2 * s)) (hn : n ≤ a + s) : Mrg lt' a n dj dj := by
  refine Mrg.same ?_
  have e1 : (k * 2) * s = a := by rw [ha, Nat.mul_assoc]
  have e2 : (k * 2 + 1) * s = a + s := by rw [Nat.succ_mul, e1]
  have same : ∀ x, a ≤ x → dj[x]! = d[x]! := fun x hx => h.perm.2.1 x (.inr (by omega))
  intro i j i1 i2 i3
  rw [same i i1, same j (by omega)]
  exact h0.srt (k * 2) i j (by omega) i2 (by rw [e2]; omega)
theorem Stg.done {lt lt' : α → α → Bool} {s n : Nat} {d0 d : Array α} (h : Stg lt lt' s n d0 d) (hs : n ≤ s) : PermIn 0 n d0 d ∧ SortedIn lt' 0 n d := by
  refine ⟨h.perm, ?_⟩
  intro i j i1 i2 i3
  exact h.srt 0 i j (by omega) i2 (by omega)
/-- The first blocks, sorted by insertion: k of them are done. -/
structure Ini (lt lt' : α → α → Bool) (s n k : Nat) (d0 d : Array α) : Prop where
  perm : PermIn 0 (k * s) d0 d
  ag : AgX lt lt' s n d
  srt : SB lt' s (k * s) d
/-- Of any later one against any earlier one the two orders agree. -/
def AgA (lt lt' : α → α → Bool) (n : Nat) (d : Array α) : Prop := ∀ i j, i < j → j < n → lt d[j]! d[i]! = lt' d[j]! d[i]!
theorem Ini.start {lt lt' : α → α → Bool} {s n : Nat} {d0 : Array α} (h : AgA lt lt' n d0) : Ini lt lt' s n 0 d0 d0 :=
  ⟨permIn_refl d0 0 _, fun k i j hi hj hjn => h i j (by omega) hjn, fun k hk i j i1 i2 i3 => by omega⟩
/-- The insertion of one block, by lt as by lt'. -/
theorem Ini.ins {lt lt' : α → α → Bool} (hO : SWO lt') {s n k a b : Nat} {d0 d : Array α} (h : Ini lt lt' s n k d0 d) (h0 : AgA lt lt' n d0) (ha : a = k * s) (hab : a ≤ b) (hbn : b ≤ n) (hn : n ≤ d0.size) : Mrg lt' a b d (Sort.insertionSort lt d a b) := by
  have hsz : d.size = d0.size := h.perm.1
  have same : ∀ x, a ≤ x → d[x]! = d0[x]! := fun x hx => h.perm.2.1 x (.inr (by omega))
  rw [ins_agree (lt := lt) (lt' := lt') (by omega) (fun x y x1 x2 x3 => by rw [same x x1, same y (by omega)]; exact h0 x y x2 (by omega))]
  exact insertionSort_holds hO d a b hab (by omega)
theorem Ini.step {lt lt' : α → α → Bool} {s n k a b : Nat} {d0 d d' : Array α} (h : Ini lt lt' s n k d0 d) (ha : a = k * s) (hb : b = a + s) (hbn : b ≤ n) (hn : n ≤ d0.size) (hm : Mrg lt' a b d d') : Ini lt lt' s n (k + 1) d0 d' ∧ b = (k + 1) * s := by
  have e : (k + 1) * s = b := by rw [Nat.succ_mul, ← ha, hb]
  have hsz : d.size = d0.size := h.perm.1
  refine ⟨⟨?_, ?_, ?_⟩, e.symm⟩
  · rw [e]
    exact permIn_trans _ _ _ _ _ (permIn_mono _ _ 0 (k * s) 0 b (Nat.le_refl _) (by omega) (by omega) h.perm) (permIn_mono _ _ a b 0 b (Nat.zero_le _) (Nat.le_refl _) (by omega) hm.1)
  · exact h.ag.perm (k0 := k) hm.1 (by omega) (by omega) hbn (by omega)
  · refine (h.srt.perm hm.1 (by omega)).next ?_
    rw [e, ← ha]
    exact hm.2
theorem Ini.fin {lt lt' : α → α → Bool} {s n k a : Nat} {d0 d d' : Array α} (h : Ini lt lt' s n k d0 d) (ha : a = k * s) (han : a ≤ n) (hn : n < a + s) (hd : n ≤ d0.size) (hm : Mrg lt' a n d d') : Stg lt lt' s n d0 d' := by
  have e : (k + 1) * s = a + s := by rw [Nat.succ_mul, ← ha]
  have hsz : d.size = d0.size := h.perm.1
  refine ⟨?_, ?_, ?_⟩
  · exact permIn_trans _ _ _ _ _ (permIn_mono _ _ 0 (k * s) 0 n (Nat.le_refl _) (by omega) (by omega) h.perm) (permIn_mono _ _ a n 0 n (Nat.zero_le _) (Nat.le_refl _) (by omega) hm.1)
  · exact h.ag.perm (k0 := k) hm.1 (by omega) (by omega) (Nat.le_refl _) (by omega)
  · intro q i j i1 i2 i3
    rcases Nat.lt_trichotomy q k with hc | hc | hc
    · have h3 : (q + 1) * s ≤ k * s := Nat.mul_le_mul_right s hc
      exact (h.srt.perm hm.1 (by omega)) q (by omega) i j i1 i2 (by omega)
    · subst hc
      exact hm.2 i j (by omega) i2 (by omega)
    · have h3 : (k + 1) * s ≤ q * s := Nat.mul_le_mul_right s hc
      omega
end Go.Proofs.Ythcmkjiemlfpcaa
