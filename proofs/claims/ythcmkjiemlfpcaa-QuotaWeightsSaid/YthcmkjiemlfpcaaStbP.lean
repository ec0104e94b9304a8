/- Merging in place, in plain words. -/
import Derived.Sort.LotA
import Derived.Sort.WalkA
namespace Go.Proofs.Ythcmkjiemlfpcaa
open Go Go.Sort
set_option linter.unusedVariables false
set_option linter.unusedSimpArgs false
variable {α : Type} [Inhabited α]

/-- d' is d with [a, m) and [m, b) exchanged. -/
structure Rot (d d' : Array α) (a m b : Nat) : Prop where
  perm : PermIn a b d d'
  lo : ∀ x, a ≤ x → x < a + (b - m) → d'[x]! = d[x + (m - a)]!
  hi : ∀ x, a + (b - m) ≤ x → x < b → d'[x]! = d[x - (b - m)]!
theorem Rot.out {d d' : Array α} {a m b : Nat} (h : Rot d d' a m b) (x : Nat) (hx : x < a ∨ b ≤ x) : d'[x]! = d[x]! := h.perm.2.1 x hx
theorem Rot.none {d : Array α} {a m b : Nat} (h : a = m ∨ m = b) (ha : a ≤ m) (hb : m ≤ b) : Rot d d a m b := by
  refine ⟨permIn_refl d a b, ?_, ?_⟩
  · intro x h1 h2
    have : x + (m - a) = x := by omega
    rw [this]
  · intro x h1 h2
    have : x - (b - m) = x := by omega
    rw [this]
/-- One further to the right: an element moved up. -/
theorem Rot.up {d dk : Array α} {a k : Nat} (h : Rot d dk a (a + 1) (k + 1)) (hk : a ≤ k) (hs : k + 1 < d.size) : Rot d (swp dk k (k + 1)) a (a + 1) (k + 2) := by
  have hsz : dk.size = d.size := h.perm.1
  refine ⟨permIn_trans _ _ _ _ _ (permIn_mono _ _ a (k + 1) a (k + 2) (Nat.le_refl _) (by omega) (by omega) h.perm) (swp_permIn dk a (k + 2) k (k + 1) hk (by omega) (by omega) (by omega) (by omega)), ?_, ?_⟩
  · intro x h1 h2
    by_cases hx : x = k
    · subst hx
      rw [swp_left _ _ _ (by omega) (by omega), h.out _ (.inr (Nat.le_refl _))]
      congr 1; omega
    · rw [swp_other _ _ _ _ hx (by omega)]
      exact h.lo x h1 (by omega)
  · intro x h1 h2
    obtain rfl : x = k + 1 := by omega
    rw [swp_right _ _ _ (by omega)]
    have := h.hi k (by omega) (by omega)
    rw [this]
    congr 1; omega
/-- One further to the left: an element moved down. -/
theorem Rot.down {d dk : Array α} {k m : Nat} (h : Rot d dk (k + 1) m (m + 1)) (hk : k + 1 ≤ m) (hs : m + 1 ≤ d.size) : Rot d (swp dk (k + 1) k) k m (m + 1) := by
  have hsz : dk.size = d.size := h.perm.1
  refine ⟨permIn_trans _ _ _ _ _ (permIn_mono _ _ (k + 1) (m + 1) k (m + 1) (by omega) (Nat.le_refl _) (by omega) h.perm) (swp_permIn dk k (m + 1) (k + 1) k (by omega) (by omega) (by omega) (by omega) (by omega)), ?_, ?_⟩
  · intro x h1 h2
    obtain rfl : x = k := by omega
    rw [swp_right _ _ _ (by omega)]
    have := h.lo (x + 1) (by omega) (by omega)
    rw [this]
    congr 1; omega
  · intro x h1 h2
    by_cases hx : x = k + 1
    · subst hx
      rw [swp_left _ _ _ (by omega) (by omega), h.out _ (.inl (by omega))]
      congr 1; omega
    · rw [swp_other _ _ _ _ hx (by omega)]
      exact h.hi x (by omega) (by omega)
/-- Two rows of n exchanged. -/
structure Xch (d d' : Array α) (x y n : Nat) : Prop where
  size : d'.size = d.size
  lo : ∀ k, x ≤ k → k < x + n → d'[k]! = d[y + (k - x)]!
  hi : ∀ k, y ≤ k → k < y + n → d'[k]! = d[x + (k - y)]!
  out : ∀ k, (k < x ∨ x + n ≤ k) → (k < y ∨ y + n ≤ k) → d'[k]! = d[k]!
  perm : ∀ a b, a ≤ x → y + n ≤ b → b ≤ d.size → PermIn a b d d'
theorem Xch.zero (d : Array α) (x y : Nat) : Xch d d x y 0 :=
  ⟨rfl, fun k h1 h2 => by omega, fun k h1 h2 => by omega, fun k _ _ => rfl, fun a b _ _ _ => permIn_refl d a b⟩
theorem Xch.step {d dk : Array α} {x y n : Nat} (h : Xch d dk x y n) (hxy : x + n + 1 ≤ y) (hs : y + n + 1 ≤ d.size) : Xch d (swp dk (x + n) (y + n)) x y (n + 1) := by
  have hsz : dk.size = d.size := h.size
  refine ⟨by rw [size_swp]; exact hsz, ?_, ?_, ?_, ?_⟩
  · intro k h1 h2
    by_cases hk : k = x + n
    · subst hk
      rw [swp_left _ _ _ (by omega) (by omega), h.out _ (.inr (by omega)) (.inr (Nat.le_refl _))]
      congr 1; omega
    · rw [swp_other _ _ _ _ hk (by omega)]
      exact h.lo k h1 (by omega)
  · intro k h1 h2
    by_cases hk : k = y + n
    · subst hk
      rw [swp_right _ _ _ (by omega), h.out _ (.inr (Nat.le_refl _)) (.inl (by omega))]
      congr 1; omega
    · rw [swp_other _ _ _ _ (by omega) hk]
      exact h.hi k h1 (by omega)
  · intro k h1 h2
    rw [swp_other _ _ _ _ (by omega) (by omega)]
    exact h.out k (by omega) (by omega)
  · intro a b h1 h2 h3
    exact permIn_trans _ _ _ _ _ (h.perm a b h1 (by omega) h3) (swp_permIn dk a b (x + n) (y + n) (by omega) (by omega) (by omega) (by omega) (by omega))
/-- The rounds of rotate. -/
theorem rot_gt {d d1 d2 : Array α} {i j m : Nat} (hj : 0 < j) (hij : j < i) (him : i ≤ m) (hs : m + j ≤ d.size) (hx : Xch d d1 (m - i) m j) (hr : Rot d1 d2 (m - (i - j)) m (m + j)) : Rot d d2 (m - i) m (m + j) := by
  have hsz : d1.size = d.size := hx.size
  refine ⟨permIn_trans _ _ _ _ _ (hx.perm (m - i) (m + j) (Nat.le_refl _) (Nat.le_refl _) hs) (permIn_mono _ _ (m - (i - j)) (m + j) (m - i) (m + j) (by omega) (Nat.le_refl _) (by omega) hr.perm), ?_, ?_⟩
  · intro x h1 h2
    rw [hr.out x (.inl (by omega)), hx.lo x h1 (by omega)]
    congr 1; omega
  · intro x h1 h2
    by_cases hc : x < m - (i - j) + j
    · rw [hr.lo x (by omega) (by omega), hx.hi _ (by omega) (by omega)]
      congr 1; omega
    · rw [hr.hi x (by omega) (by omega)]
      have e : x - (m + j - m) = x - j := by omega
      rw [e, hx.out (x - j) (.inr (by omega)) (.inl (by omega))]
theorem rot_lt {d d1 d2 : Array α} {i j m : Nat} (hi : 0 < i) (hij : i < j) (him : i ≤ m) (hs : m + j ≤ d.size) (hx : Xch d d1 (m - i) (m + j - i) i) (hr : Rot d1 d2 (m - i) m (m + (j - i))) : Rot d d2 (m - i) m (m + j) := by
  have hsz : d1.size = d.size := hx.size
  refine ⟨permIn_trans _ _ _ _ _ (hx.perm (m - i) (m + j) (Nat.le_refl _) (by omega) hs) (permIn_mono _ _ (m - i) (m + (j - i)) (m - i) (m + j) (Nat.le_refl _) (by omega) (by omega) hr.perm), ?_, ?_⟩
  · intro x h1 h2
    by_cases hc : x < m - i + (j - i)
    · rw [hr.lo x h1 (by omega)]
      have e : x + (m - (m - i)) = x + i := by omega
      rw [e, hx.out (x + i) (.inr (by omega)) (.inl (by omega))]
    · by_cases hc2 : x < m + (j - i)
      · rw [hr.hi x (by omega) hc2, hx.lo _ (by omega) (by omega)]
        congr 1; omega
      · omega
  · intro x h1 h2
    rw [hr.out x (.inr (by omega)), hx.hi x (by omega) (by omega)]
    congr 1; omega
theorem rot_eq {d d1 : Array α} {i m : Nat} (him : i ≤ m) (hs : m + i ≤ d.size) (hx : Xch d d1 (m - i) m i) : Rot d d1 (m - i) m (m + i) := by
  refine ⟨hx.perm _ _ (Nat.le_refl _) (Nat.le_refl _) hs, ?_, ?_⟩
  · intro x h1 h2
    rw [hx.lo x h1 (by omega)]
    congr 1; omega
  · intro x h1 h2
    rw [hx.hi x (by omega) (by omega)]
    congr 1; omega

variable {lt : α → α → Bool}
/-- Sorted: any two places, the same one too. -/
theorem srt_le (h : SWO lt) {a b : Nat} {d : Array α} (hs : SortedIn lt a b d) {i j : Nat} (h1 : a ≤ i) (h2 : i ≤ j) (h3 : j < b) : lt d[j]! d[i]! = false := by
  rcases Nat.lt_or_eq_of_le h2 with h4 | rfl
  · exact hs i j h1 h4 h3
  · exact h.irrefl _
theorem srt_mono {a b a' b' : Nat} {d : Array α} (hs : SortedIn lt a b d) (h1 : a ≤ a') (h2 : b' ≤ b) : SortedIn lt a' b' d := fun i j i1 i2 i3 => hs i j (by omega) i2 (by omega)
theorem srt_join {a m b : Nat} {d : Array α} (h1 : SortedIn lt a m d) (h2 : SortedIn lt m b d) (hx : ∀ i j, a ≤ i → i < m → m ≤ j → j < b → lt d[j]! d[i]! = false) : SortedIn lt a b d := by
  intro i j i1 i2 i3
  by_cases hj : j < m
  · exact h1 i j i1 i2 hj
  · by_cases hi : i < m
    · exact hx i j i1 hi (by omega) i3
    · exact h2 i j (by omega) i2 i3
/-- One element against a row, moved up. -/
theorem mrg_up (h : SWO lt) {d d' : Array α} {a i b : Nat} (ha : a + 1 ≤ i) (hi : i ≤ b) (hr : SortedIn lt (a + 1) b d) (hrot : Rot d d' a (a + 1) i)
    (c1 : i = a + 1 ∨ lt d[i - 1]! d[a]! = true) (c2 : i = b ∨ lt d[i]! d[a]! = false) : SortedIn lt a b d' := by
  have low : ∀ j, a ≤ j → j < i - 1 → d'[j]! = d[j + 1]! := fun j h1 h2 => by rw [hrot.lo j h1 (by omega)]; congr 1; omega
  have mid : d'[i - 1]! = d[a]! := by rw [hrot.hi (i - 1) (by omega) (by omega)]; congr 1; omega
  have up : ∀ j, i ≤ j → d'[j]! = d[j]! := fun j h1 => hrot.out j (.inr h1)
  intro x y h1 h2 h3
  by_cases hy : y < i - 1
  · rw [low y (by omega) hy, low x h1 (by omega)]
    exact hr _ _ (by omega) (by omega) (by omega)
  · by_cases hy2 : y = i - 1
    · rw [hy2, mid, low x h1 (by omega)]
      rcases c1 with c1 | c1
      · omega
      · have h4 := srt_le h hr (i := x + 1) (j := i - 1) (by omega) (by omega) (by omega)
        exact h.ntrans _ _ _ (h.asymmA c1) h4
    · rw [up y (by omega)]
      by_cases hx : x < i - 1
      · rw [low x h1 hx]
        exact hr _ _ (by omega) (by omega) (by omega)
      · by_cases hx2 : x = i - 1
        · rw [hx2, mid]
          rcases c2 with c2 | c2
          · omega
          · have h4 := srt_le h hr (i := i) (j := y) (by omega) (by omega) (by omega)
            exact h.ntrans _ _ _ h4 c2
        · rw [up x (by omega)]
          exact hr _ _ (by omega) (by omega) (by omega)
/-- One element behind a row, moved down. -/
theorem mrg_down (h : SWO lt) {d d' : Array α} {a i m : Nat} (ha : a ≤ i) (hi : i ≤ m) (hl : SortedIn lt a m d) (hrot : Rot d d' i m (m + 1))
    (c1 : i = a ∨ lt d[m]! d[i - 1]! = false) (c2 : i = m ∨ lt d[m]! d[i]! = true) : SortedIn lt a (m + 1) d' := by
  have mid : d'[i]! = d[m]! := by rw [hrot.lo i (Nat.le_refl _) (by omega)]; congr 1; omega
  have up : ∀ j, i < j → j ≤ m → d'[j]! = d[j - 1]! := fun j h1 h2 => by rw [hrot.hi j (by omega) (by omega)]; congr 1; omega
  have low : ∀ j, j < i → d'[j]! = d[j]! := fun j h1 => hrot.out j (.inl h1)
  intro x y h1 h2 h3
  by_cases hy : y < i
  · rw [low y hy, low x (by omega)]
    exact hl _ _ (by omega) (by omega) (by omega)
  · by_cases hy2 : y = i
    · rw [hy2, mid, low x (by omega)]
      rcases c1 with c1 | c1
      · omega
      · have h4 := srt_le h hl (i := x) (j := i - 1) (by omega) (by omega) (by omega)
        exact h.ntrans _ _ _ c1 h4
    · rw [up y (by omega) (by omega)]
      by_cases hx : x < i
      · rw [low x hx]
        exact srt_le h hl (by omega) (by omega) (by omega)
      · by_cases hx2 : x = i
        · rw [hx2, mid]
          rcases c2 with c2 | c2
          · omega
          · have h4 := srt_le h hl (i := i) (j := y - 1) (by omega) (by omega) (by omega)
            exact h.ntrans _ _ _ h4 (h.asymmA c2)
        · rw [up x (by omega) (by omega)]
          exact hl _ _ (by omega) (by omega) (by omega)
/-- Behind the exchange of the middle parts: what is below, what is above. -/
theorem mrg_cross (h : SWO lt) {d d' : Array α} {a s m e b : Nat} (h1 : a ≤ s) (h2 : s ≤ m) (h3 : m ≤ e) (h4 : e ≤ b) (hl : SortedIn lt a m d) (hr : SortedIn lt m b d) (hrot : Rot d d' s m e)
    (c1 : s = a ∨ e = b ∨ lt d[e]! d[s - 1]! = false) (c2 : s = m ∨ e = m ∨ lt d[e - 1]! d[s]! = true) :
    SortedIn lt a s d' ∧ SortedIn lt s (s + (e - m)) d' ∧ SortedIn lt (s + (e - m)) e d' ∧ SortedIn lt e b d' ∧ (∀ i j, a ≤ i → i < s + (e - m) → s + (e - m) ≤ j → j < b → lt d'[j]! d'[i]! = false) := by
  have o1 : ∀ x, x < s → d'[x]! = d[x]! := fun x hx => hrot.out x (.inl hx)
  have o2 : ∀ x, s ≤ x → x < s + (e - m) → d'[x]! = d[x + (m - s)]! := hrot.lo
  have o3 : ∀ x, s + (e - m) ≤ x → x < e → d'[x]! = d[x - (e - m)]! := hrot.hi
  have o4 : ∀ x, e ≤ x → d'[x]! = d[x]! := fun x hx => hrot.out x (.inr hx)
  refine ⟨?_, ?_, ?_, ?_, ?_⟩
  · intro x y x1 x2 x3
    rw [o1 x (by omega), o1 y x3]
    exact hl _ _ x1 x2 (by omega)
  · intro x y x1 x2 x3
    rw [o2 x x1 (by omega), o2 y (by omega) x3]
    exact hr _ _ (by omega) (by omega) (by omega)
  · intro x y x1 x2 x3
    rw [o3 x x1 (by omega), o3 y (by omega) x3]
    exact hl _ _ (by omega) (by omega) (by omega)
  · intro x y x1 x2 x3
    rw [o4 x x1, o4 y (by omega)]
    exact hr _ _ (by omega) (by omega) (by omega)
  · intro x y x1 x2 x3 x4
    by_cases hx : x < s
    · rw [o1 x hx]
      by_cases hy : y < e
      · rw [o3 y x3 hy]
        exact srt_le h hl x1 (by omega) (by omega)
      · rw [o4 y (by omega)]
        rcases c1 with c1 | c1 | c1
        · omega
        · omega
        · have q1 := srt_le h hl (i := x) (j := s - 1) x1 (by omega) (by omega)
          have q2 := srt_le h hr (i := e) (j := y) (by omega) (by omega) (by omega)
          exact h.ntrans _ _ _ q2 (h.ntrans _ _ _ c1 q1)
    · rw [o2 x (by omega) x2]
      by_cases hy : y < e
      · rw [o3 y x3 hy]
        rcases c2 with c2 | c2 | c2
        · omega
        · omega
        · have q1 := srt_le h hl (i := s) (j := y - (e - m)) (by omega) (by omega) (by omega)
          have q2 := srt_le h hr (i := x + (m - s)) (j := e - 1) (by omega) (by omega) (by omega)
          exact h.ntrans _ _ _ q1 (h.ntrans _ _ _ (h.asymmA c2) q2)
      · rw [o4 y (by omega)]
        exact srt_le h hr (by omega) (by omega) (by omega)
/-- Merged. -/
def Mrg (lt : α → α → Bool) (a b : Nat) (d d' : Array α) : Prop := PermIn a b d d' ∧ SortedIn lt a b d'
/-- The two halves merged each, behind the exchange. -/
theorem mrg_end {d d1 d2 d3 : Array α} {a mid b : Nat} (hm : a ≤ mid) (hm2 : mid ≤ b) (hb : b ≤ d.size) (h0 : PermIn a b d d1)
    (hx : ∀ i j, a ≤ i → i < mid → mid ≤ j → j < b → lt d1[j]! d1[i]! = false) (h1 : Mrg lt a mid d1 d2) (h2 : Mrg lt mid b d2 d3) : Mrg lt a b d d3 := by
  have z1 : d1.size = d.size := h0.1
  have z2 : d2.size = d1.size := h1.1.1
  have z3 : d3.size = d2.size := h2.1.1
  refine ⟨permIn_trans _ _ _ _ _ h0 (permIn_trans _ _ _ _ _ (permIn_mono _ _ a mid a b (Nat.le_refl _) hm2 (by omega) h1.1) (permIn_mono _ _ mid b a b hm (Nat.le_refl _) (by omega) h2.1)), ?_⟩
  have x2 : ∀ j, mid ≤ j → j < b → ∀ i, a ≤ i → i < mid → lt d2[j]! d2[i]! = false := by
    intro j j1 j2
    rw [h1.1.2.1 j (.inr j1)]
    exact permIn_all d1 d2 a mid (fun z => lt d1[j]! z = false) (by omega) h1.1 (fun i i1 i2 => hx i j i1 i2 j1 j2)
  have x3 : ∀ i, a ≤ i → i < mid → ∀ j, mid ≤ j → j < b → lt d3[j]! d3[i]! = false := by
    intro i i1 i2
    rw [h2.1.2.1 i (.inl i2)]
    exact permIn_all d2 d3 mid b (fun z => lt z d2[i]! = false) (by omega) h2.1 (fun j j1 j2 => x2 j j1 j2 i i1 i2)
  refine srt_join ?_ h2.2 (fun i j i1 i2 j1 j2 => x3 i i1 i2 j j1 j2)
  intro i j i1 i2 i3
  rw [h2.1.2.1 i (.inl (by omega)), h2.1.2.1 j (.inl i3)]
  exact h1.2 i j i1 i2 i3
theorem Mrg.same {d : Array α} {a b : Nat} (h : SortedIn lt a b d) : Mrg lt a b d d := ⟨permIn_refl d a b, h⟩

/-- Insertion asks a later one against an earlier one alone. -/
theorem insInner_agree {lt lt' : α → α → Bool} {a : Nat} : ∀ (j : Nat) (d : Array α), j < d.size → (∀ i, a ≤ i → i < j → lt d[j]! d[i]! = lt' d[j]! d[i]!) → insInner lt a j d = insInner lt' a j d := by
  intro j
  induction j with
  | zero => intro d _ _; rfl
  | succ j ih =>
    intro d hj hag
    unfold insInner
    by_cases hja : j + 1 > a
    · rw [hag j (by omega) (by omega)]
      split
      · refine ih _ (by rw [size_swp]; omega) ?_
        intro i i1 i2
        rw [swp_right _ _ _ (by omega), swp_other _ _ _ _ (by omega) (by omega)]
        exact hag i i1 (by omega)
      · rfl
    · have : decide (j + 1 > a) = false := decide_eq_false hja
      rw [this]
      simp
theorem insInner_perm {lt : α → α → Bool} {a : Nat} : ∀ (j : Nat) (d : Array α), a ≤ j → j < d.size → PermIn a (j + 1) d (insInner lt a j d) := by
  intro j
  induction j with
  | zero => intro d _ _; exact permIn_refl _ _ _
  | succ j ih =>
    intro d ha hj
    unfold insInner
    by_cases hja : j + 1 > a
    · split
      · have h1 := swp_permIn d a (j + 2) (j + 1) j (by omega) (by omega) (by omega) (by omega) (by omega)
        have h2 := ih (swp d (j + 1) j) (by omega) (by rw [size_swp]; omega)
        exact permIn_trans _ _ _ _ _ h1 (permIn_mono _ _ a (j + 1) a (j + 2) (Nat.le_refl _) (by omega) (by rw [size_swp]; omega) h2)
      · exact permIn_refl _ _ _
    · have : decide (j + 1 > a) = false := decide_eq_false hja
      rw [this]
      simp
      exact permIn_refl _ _ _
theorem insOuter_agree {lt lt' : α → α → Bool} {a b : Nat} : ∀ (n i : Nat) (d : Array α), b - i ≤ n → a ≤ i → b ≤ d.size → (∀ x y, a ≤ x → x < y → i ≤ y → y < b → lt d[y]! d[x]! = lt' d[y]! d[x]!) → insOuter lt a b i d = insOuter lt' a b i d := by
  intro n
  induction n with
  | zero =>
    intro i d hn _ _ _
    rw [insOuter_stop _ _ _ _ _ (by omega), insOuter_stop _ _ _ _ _ (by omega)]
  | succ n ih =>
    intro i d hn ha hb hag
    by_cases hi : i < b
    · rw [insOuter_go _ _ _ _ _ hi, insOuter_go _ _ _ _ _ hi, ← insInner_agree i d (by omega) (fun x x1 x2 => hag x i x1 x2 (Nat.le_refl _) hi)]
      have hp := insInner_perm (lt := lt) (a := a) i d ha (by omega)
      refine ih (i + 1) _ (by omega) (by omega) (by rw [hp.1]; exact hb) ?_
      intro x y x1 x2 x3 x4
      rw [hp.2.1 y (.inr x3)]
      by_cases hx : x < i + 1
      · exact permIn_all d _ a (i + 1) (fun z => lt d[y]! z = lt' d[y]! z) (by omega) hp (fun k k1 k2 => hag k y k1 (by omega) (by omega) x4) x x1 hx
      · rw [hp.2.1 x (.inr (by omega))]
        exact hag x y x1 x2 (by omega) x4
    · rw [insOuter_stop _ _ _ _ _ hi, insOuter_stop _ _ _ _ _ hi]
theorem ins_agree {lt lt' : α → α → Bool} {a b : Nat} {d : Array α} (hb : b ≤ d.size) (hag : ∀ x y, a ≤ x → x < y → y < b → lt d[y]! d[x]! = lt' d[y]! d[x]!) : Sort.insertionSort lt d a b = Sort.insertionSort lt' d a b :=
  insOuter_agree (b - (a + 1)) (a + 1) d (Nat.le_refl _) (by omega) hb (fun x y x1 x2 _ x4 => hag x y x1 x2 x4)
end Go.Proofs.Ythcmkjiemlfpcaa
