/- The plain law of the bucket's bound. -/
import Derived.Test.YthcmkjiemlfpcaaQPlain2
namespace Go.Proofs.Ythcmkjiemlfpcaa
set_option linter.unusedVariables false

/-- What is left behind a taking may be. -/
theorem Bk.Ok.less {c : Bk} (h : c.Ok) {m : Int} (h0 : 0 ≤ m) (h1 : m ≤ c.level) : ({ c with level := c.level - m } : Bk).Ok := by
  obtain ⟨n1, n2, d1, d2, u1, u2, l1, l2, p1, p2, z, t1, t2⟩ := h
  exact ⟨n1, n2, d1, d2, u1, u2, by simp; omega, by simp; omega, p1, p2, fun e => z (by simp at e; omega), t1, t2⟩
theorem Bk.parts_less (c : Bk) (m : Int) : ({ c with level := c.level - m } : Bk).parts = c.parts - m * c.den := by
  unfold Bk.parts
  simp only
  rw [Int.sub_mul]
  omega

/-- What has been taken so far, and when: T the ticks, K how many. -/
structure Hist (n d u now : Int) (k : Nat) (t0 : Int) (b : Bk) (T K : List Int) : Prop where
  len : T.length = K.length
  ok : b.Ok
  num : b.num = n
  den : b.den = d
  burst : b.burst = u
  tick : b.tick = t0
  at1 : now ≤ t0
  at2 : t0 ≤ now + (k : Int) * 1048576
  tb : ∀ (i : Nat) (t : Int), T[i]? = some t → now ≤ t ∧ t ≤ t0
  kb : ∀ (i : Nat) (x : Int), K[i]? = some x → 0 ≤ x ∧ x ≤ 1073741824
  tl : T.length ≤ k
  cur : ∀ (i : Nat) (t : Int), T[i]? = some t → (K.drop i).sum * d + b.parts ≤ u * d + n * (t0 - t)
  good : ∀ (i j : Nat) (t t' : Int), i ≤ j → T[i]? = some t → T[j]? = some t' → t ≤ t' ∧ ((K.take (j + 1)).drop i).sum * d ≤ u * d + n * (t' - t)

theorem Hist.start {n d u now : Int} (h : (⟨n, d, u, u, 0, now⟩ : Bk).Ok) : Hist n d u now 0 now ⟨n, d, u, u, 0, now⟩ [] [] :=
  ⟨rfl, h, rfl, rfl, rfl, rfl, Int.le_refl _, by omega, fun i t h => by simp at h, fun i t h => by simp at h, by simp, fun i t h => by simp at h, fun i j t t' _ h => by simp at h⟩

theorem Hist.skip {n d u now t0 : Int} {k : Nat} {b : Bk} {T K : List Int} (h : Hist n d u now k t0 b T K) : Hist n d u now (k + 1) t0 b T K :=
  ⟨h.len, h.ok, h.num, h.den, h.burst, h.tick, h.at1, by have := h.at2; omega, h.tb, h.kb, by have := h.tl; omega, h.cur, h.good⟩

/-- Time passes. -/
theorem Hist.wait {n d u now t0 : Int} {k : Nat} {b : Bk} {T K : List Int} (h : Hist n d u now k t0 b T K) {x : Int} (h0 : 0 ≤ x) (h1 : x ≤ 1048576) (h2 : t0 + x < 1125899906842624) :
    Hist n d u now (k + 1) (t0 + x) (b.fill (t0 + x)) T K := by
  have f := h.ok.fill_parts (now := t0 + x) (by rw [h.tick]; omega)
  have s := Bk.fill_same b (t0 + x)
  have hu : upto (t0 + x) = t0 + x := by unfold upto; omega
  rw [hu, h.tick, h.num] at f
  have e : t0 + x - t0 = x := by omega
  rw [e] at f
  refine ⟨h.len, h.ok.fill _, by rw [s.1, h.num], by rw [s.2.1, h.den], by rw [s.2.2, h.burst], f.2, by have := h.at1; omega, by have := h.at2; omega, fun i t ht => ?_, h.kb, by have := h.tl; omega, fun i t ht => ?_, h.good⟩
  · have := h.tb i t ht
    omega
  · have := h.cur i t ht
    rw [f.1]
    have e2 : n * (t0 + x - t) = n * (t0 - t) + x * n := by rw [Int.mul_comm x n, ← Int.mul_add]; congr 1; omega
    rw [e2]
    omega

/-- Something is taken. -/
theorem Hist.took {n d u now t0 : Int} {k : Nat} {b : Bk} {T K : List Int} (h : Hist n d u now (k + 1) t0 b T K) (hl : T.length ≤ k) {m : Int} (h0 : 0 ≤ m) (h1 : m ≤ b.level) :
    Hist n d u now (k + 1) t0 { b with level := b.level - m } (T ++ [t0]) (K ++ [m]) := by
  have hp : ({ b with level := b.level - m } : Bk).parts = b.parts - m * d := (Bk.parts_less b m).trans (by rw [h.den])
  have hbd := h.ok.bd
  have a4 := hbd.a4
  rw [h.burst, h.den] at a4
  have l2 := h.ok.l2
  have u2 := h.ok.u2
  have hlen := h.len
  have hp0 := (h.ok.less h0 h1).bd.a5
  have hcur : ∀ (i : Nat) (t : Int), (T ++ [t0])[i]? = some t → ((K ++ [m]).drop i).sum * d + ({ b with level := b.level - m } : Bk).parts ≤ u * d + n * (t0 - t) := by
    intro i t ht
    rw [List.getElem?_append] at ht
    split at ht
    · rename_i hi
      have hc := h.cur i t ht
      rw [List.drop_append_of_le_length (by omega), List.sum_append, hp]
      simp only [List.sum_cons, List.sum_nil, Int.add_zero]
      rw [Int.add_mul]
      omega
    · rename_i hi
      have e : i - T.length = 0 := by
        rcases Nat.eq_zero_or_pos (i - T.length) with h' | h'
        · exact h'
        · rw [List.getElem?_eq_none (by simp; omega)] at ht
          cases ht
      rw [e] at ht
      simp only [List.getElem?_cons_zero, Option.some.injEq] at ht
      subst ht
      have ei : i = K.length := by omega
      subst ei
      rw [List.drop_left, hp]
      simp only [List.sum_cons, List.sum_nil, Int.add_zero, Int.sub_self, Int.mul_zero]
      omega
  have htb : ∀ (i : Nat) (t : Int), (T ++ [t0])[i]? = some t → now ≤ t ∧ t ≤ t0 := by
    intro i t ht
    rw [List.getElem?_append] at ht
    split at ht
    · exact h.tb i t ht
    · have := List.mem_of_getElem? ht
      simp at this
      subst this
      exact ⟨h.at1, Int.le_refl _⟩
  refine ⟨by simp [hlen], h.ok.less h0 h1, h.num, h.den, h.burst, h.tick, h.at1, h.at2, htb, ?_, by simp; omega, hcur, ?_⟩
  · intro i x hx
    rw [List.getElem?_append] at hx
    split at hx
    · exact h.kb i x hx
    · have := List.mem_of_getElem? hx
      simp at this
      subst this
      omega
  · intro i j t t' hij ht ht'
    by_cases hj : j < T.length
    · have e1 : (T ++ [t0])[i]? = T[i]? := List.getElem?_append_left (by omega)
      have e2 : (T ++ [t0])[j]? = T[j]? := List.getElem?_append_left hj
      rw [e1] at ht
      rw [e2] at ht'
      rw [List.take_append_of_le_length (by omega)]
      exact h.good i j t t' hij ht ht'
    · have hj' : j < (T ++ [t0]).length := (List.getElem?_eq_some_iff.1 ht').1
      have ej : j = T.length := by simp at hj'; omega
      subst ej
      have et : t' = t0 := by
        rw [List.getElem?_append_right (by omega), Nat.sub_self] at ht'
        simp at ht'
        exact ht'.symm
      subst et
      refine ⟨(htb i t ht).2, ?_⟩
      have hc := hcur i t ht
      rw [List.take_of_length_le (by simp; omega)]
      omega

/-- Whole tokens that come in. -/
theorem in_le {n d u s x : Int} (hd : 1 ≤ d) (hn : 0 ≤ n) (hx : 0 ≤ x) (h : s * d ≤ u * d + n * x) : s ≤ u + (n / d * x + n % d * x / d) := by
  have e := Int.mul_ediv_add_emod n d
  have e2 : n * x = d * (n / d * x) + n % d * x := by
    have : n * x = (d * (n / d) + n % d) * x := by rw [e]
    rw [this, Int.add_mul, Int.mul_assoc]
  have h1 : (s - u - n / d * x) * d ≤ n % d * x := by
    rw [Int.sub_mul, Int.sub_mul, Int.mul_comm (n / d * x) d]
    omega
  have h2 : s - u - n / d * x ≤ n % d * x / d := (Int.le_ediv_iff_mul_le (by omega)).2 h1
  omega

theorem Hist.bound {n d u now t0 : Int} {k : Nat} {b : Bk} {T K : List Int} (h : Hist n d u now k t0 b T K) {i j : Nat} {t t' : Int} (hij : i ≤ j) (ht : T[i]? = some t) (ht' : T[j]? = some t') :
    ((K.take (j + 1)).drop i).sum ≤ u + (n / d * (t' - t) + n % d * (t' - t) / d) := by
  have hg := h.good i j t t' hij ht ht'
  exact in_le (by have := h.ok.d1; rw [h.den] at this; exact this) (by have := h.ok.n1; rw [h.num] at this; omega) (by omega) hg.2

/-- A sum of so many. -/
theorem sum_bd (l : List Int) (M : Int) (h : ∀ x ∈ l, 0 ≤ x ∧ x ≤ M) : 0 ≤ l.sum ∧ l.sum ≤ (l.length : Int) * M := by
  induction l with
  | nil => simp
  | cons a r ih =>
    have h1 := ih (fun x hx => h x (List.mem_cons_of_mem _ hx))
    have h2 := h a (List.mem_cons_self ..)
    have e : ((a :: r).length : Int) * M = (r.length : Int) * M + M := by
      rw [List.length_cons]
      push_cast
      rw [Int.add_mul, Int.one_mul]
    rw [List.sum_cons, e]
    omega
theorem Hist.sum {n d u now t0 : Int} {k : Nat} {b : Bk} {T K : List Int} (h : Hist n d u now k t0 b T K) (hk : k ≤ 1000) (i j : Nat) : 0 ≤ ((K.take j).drop i).sum ∧ ((K.take j).drop i).sum ≤ 1073741824000 := by
  have h1 := sum_bd ((K.take j).drop i) 1073741824 (fun x hx => by
    obtain ⟨q, hq⟩ := List.getElem?_of_mem (List.mem_of_mem_take (List.mem_of_mem_drop hx))
    exact h.kb q x hq)
  have h2 : ((K.take j).drop i).length ≤ 1000 := by have := h.tl; have := h.len; simp; omega
  have h3 : (((K.take j).drop i).length : Int) * 1073741824 ≤ 1000 * 1073741824 := by omega
  omega
theorem take_drop_snoc {K : List Int} {i j : Nat} {x : Int} (hij : i ≤ j) (hx : K[j]? = some x) : ((K.take (j + 1)).drop i).sum = ((K.take j).drop i).sum + x := by
  obtain ⟨hj, rfl⟩ := List.getElem?_eq_some_iff.1 hx
  rw [List.take_succ_eq_append_getElem hj, List.drop_append_of_le_length (by simp; omega), List.sum_append]
  simp
end Go.Proofs.Ythcmkjiemlfpcaa
