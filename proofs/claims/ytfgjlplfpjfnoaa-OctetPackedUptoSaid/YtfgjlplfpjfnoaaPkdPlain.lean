/- Items there and back: what it comes to. -/
import Derived.Test.YtfgjlplfpjfnoaaRUnpack
namespace Go.Proofs.Ytfgjlplfpjfnoaa
open Go Go.RowKit
set_option linter.unusedVariables false
set_option linter.unusedSimpArgs false

theorem ru_all (v : Nat) (t : List Nat) (h : v < 18446744073709551616) : Uv.ru 0 0 (Uv.uv v ++ t) = (v, (Uv.uv v).length, 0) := by
  have := Uv.ru_uv t v 0 0 (by simpa using h) (by omega) (fun h => absurd h (by omega))
  simpa using this
theorem val_fx (k : Nat) : ∀ v, val (fx v k) = v % 256 ^ k := by
  induction k with
  | zero => intro v; simp [fx, val, Nat.mod_one]
  | succ k ih =>
    intro v
    rw [fx, val_snoc, ih, Nat.pow_succ, Nat.mul_comm (256 ^ k) 256, Nat.mod_mul, Nat.mul_comm]
    omega
theorem val_fx4 {v : Nat} (h : v ≤ 4294967295) : val (fx v 4) = v := by
  rw [val_fx, Nat.mod_eq_of_lt]
  have : (256 : Nat) ^ 4 = 4294967296 := by decide
  omega
theorem val_fx8 {v : Nat} (h : v < 18446744073709551616) : val (fx v 8) = v := by
  rw [val_fx, Nat.mod_eq_of_lt]
  have : (256 : Nat) ^ 8 = 18446744073709551616 := by decide
  omega
theorem nil_or_snoc {α : Type} (l : List α) : l = [] ∨ ∃ l' x, l = l' ++ [x] := by
  rcases List.eq_nil_or_concat l with h | ⟨a, b, h⟩
  · exact .inl h
  · exact .inr ⟨a, b, by rw [h, List.concat_eq_append]⟩
theorem fx_val {B : List Nat} (h : By B) : ∀ {n : Nat}, B.length = n → fx (val B) n = B := by
  intro n
  induction n generalizing B with
  | zero => intro hl; rw [List.eq_nil_of_length_eq_zero hl]; rfl
  | succ n ih =>
    intro hl
    rcases nil_or_snoc B with rfl | ⟨B', c, rfl⟩
    · simp at hl
    · have hc : c < 256 := h c (by simp)
      have hl' : B'.length = n := by simpa using hl
      rw [val_snoc, fx, show (val B' * 256 + c) / 256 = val B' by omega, show (val B' * 256 + c) % 256 = c by omega, ih (fun b hb => h b (by simp [hb])) hl']
theorem empty_of {s : ByteArray} (h : s.toList.isEmpty = true) : s = ⟨#[]⟩ := by
  rw [ByteArray.toList_eq] at h
  have h2 : s.data.toList = [] := List.isEmpty_iff.1 h
  have h3 : s.data = #[] := Array.toList_inj.1 (by simpa using h2)
  cases s
  simp only at h3
  rw [h3]
theorem empty_is : ((⟨#[]⟩ : ByteArray).toList.isEmpty) = true := by rw [ByteArray.toList_eq]; rfl

theorem fits_cases {x : Stp} (h : x.fits = true) :
    (x.k = 0 ∧ x.n ≤ 255 ∧ x.s = ⟨#[]⟩) ∨ (x.k = 1 ∧ x.s = ⟨#[]⟩) ∨ (x.k = 2 ∧ x.s = ⟨#[]⟩) ∨ (x.k = 3 ∧ x.n ≤ 4294967295 ∧ x.s = ⟨#[]⟩) ∨ (x.k = 4 ∧ x.s = ⟨#[]⟩) ∨ (x.k = 5 ∧ x.n = 0) := by
  unfold Stp.fits at h
  split at h
  · simp only [Bool.and_eq_true, decide_eq_true_eq] at h
    exact .inl ⟨by assumption, h.1, empty_of h.2⟩
  split at h
  · simp only [Bool.and_eq_true, decide_eq_true_eq] at h
    exact .inr (.inr (.inr (.inl ⟨by assumption, h.1, empty_of h.2⟩)))
  split at h
  · exact .inr (.inl ⟨by assumption, empty_of h⟩)
  split at h
  · exact .inr (.inr (.inl ⟨by assumption, empty_of h⟩))
  split at h
  · exact .inr (.inr (.inr (.inr (.inl ⟨by assumption, empty_of h⟩))))
  split at h
  · exact .inr (.inr (.inr (.inr (.inr ⟨by assumption, of_decide_eq_true h⟩))))
  · cases h
theorem fits_kindB {x : Stp} (h : x.fits = true) : kindOk x.k = true := by
  unfold kindOk
  rcases fits_cases h with ⟨e, _⟩ | ⟨e, _⟩ | ⟨e, _⟩ | ⟨e, _⟩ | ⟨e, _⟩ | ⟨e, _⟩ <;> rw [e] <;> decide

section
variable {pre post b : List Nat}
theorem take_read {n : Nat} (hb : b.length = n) : (⟨pre ++ (b ++ post), pre.length, 0, 0⟩ : Rs).take n = (b, ⟨pre ++ (b ++ post), pre.length + n, 0, 0⟩) := by
  unfold Rs.take Rs.rest Rs.go
  rw [if_neg (by simp), if_neg (by omega), if_neg (by simp; omega)]
  subst hb
  simp
theorem take_shortB {n : Nat} (hb : b.length < n) : (⟨pre ++ b, pre.length, 0, 0⟩ : Rs).take n = ([], ⟨pre ++ b, (pre ++ b).length, 10, pre.length⟩) := by
  unfold Rs.take Rs.rest Rs.fail Rs.failAt
  rw [if_neg (by simp), if_neg (by omega), if_pos (by simp; omega)]
  simp
theorem num_read {v : Nat} (hv : v < 18446744073709551616) : (⟨pre ++ (Uv.uv v ++ post), pre.length, 0, 0⟩ : Rs).num = (v, ⟨pre ++ (Uv.uv v ++ post), pre.length + (Uv.uv v).length, 0, 0⟩) := by
  unfold Rs.num Rs.go
  simp [ru_all v post hv]
theorem ru_cut0 {v k : Nat} (hv : v < 18446744073709551616) (hk : k < (Uv.uv v).length) : Uv.ru 0 0 ((Uv.uv v).take k) = (0, 0, 10) :=
  Uv.ru_cut v 0 0 k (by simpa using hv) (by omega) (fun h => absurd h (by omega)) hk
theorem num_short {v k : Nat} (hv : v < 18446744073709551616) (hk : k < (Uv.uv v).length) : (⟨pre ++ (Uv.uv v).take k, pre.length, 0, 0⟩ : Rs).num = (0, ⟨pre ++ (Uv.uv v).take k, (pre ++ (Uv.uv v).take k).length, 10, pre.length⟩) := by
  unfold Rs.num Rs.fail Rs.failAt
  simp [ru_cut0 hv hk]
theorem text_read {s : ByteArray} {most : Int} (hs : s.size ≤ 140737488351232) (hm : (s.size : Int) ≤ most) :
    (⟨pre ++ ((Uv.uv s.size ++ sb s) ++ post), pre.length, 0, 0⟩ : Rs).text most = (sb s, ⟨pre ++ ((Uv.uv s.size ++ sb s) ++ post), pre.length + (Uv.uv s.size ++ sb s).length, 0, 0⟩) := by
  have hn := num_read (pre := pre) (post := sb s ++ post) (v := s.size) (by omega)
  rw [← List.append_assoc (Uv.uv s.size)] at hn
  unfold Rs.text
  rw [hn]
  simp only [ne_eq, not_true_eq_false, if_false]
  rw [if_neg (by omega)]
  unfold Rs.rest Rs.go
  have hl : (sb s).length = s.size := sb_length s
  rw [if_neg (by simp only [List.length_append]; omega)]
  have e1 : pre ++ (Uv.uv s.size ++ sb s ++ post) = (pre ++ Uv.uv s.size) ++ (sb s ++ post) := by simp
  have e2 : (pre ++ Uv.uv s.size).length = pre.length + (Uv.uv s.size).length := List.length_append
  have e3 : ((pre ++ (Uv.uv s.size ++ sb s ++ post)).drop (pre.length + (Uv.uv s.size).length)).take s.size = sb s := by
    rw [e1, ← e2, List.drop_left, List.take_left' hl]
  rw [e3]
  simp only [List.length_append, hl, Nat.add_assoc]
theorem text_short {s : ByteArray} {most : Int} (hs : s.size ≤ 140737488351232) (hm : (s.size : Int) ≤ most) :
    ((⟨pre ++ (Uv.uv s.size ++ sb s).take ((Uv.uv s.size ++ sb s).length - 1), pre.length, 0, 0⟩ : Rs).text most).2.err = 10 ∧ ((⟨pre ++ (Uv.uv s.size ++ sb s).take ((Uv.uv s.size ++ sb s).length - 1), pre.length, 0, 0⟩ : Rs).text most).2.ea = pre.length := by
  have hl : (sb s).length = s.size := sb_length s
  have hp := Uv.uv_pos s.size
  rcases Nat.eq_zero_or_pos s.size with h0 | h0
  · have e0 : sb s = [] := List.eq_nil_of_length_eq_zero (by omega)
    rw [e0, List.append_nil]
    have hn := num_short (pre := pre) (v := s.size) (k := (Uv.uv s.size).length - 1) (by omega) (by omega)
    unfold Rs.text
    rw [hn]
    simp
  · have e1 : (Uv.uv s.size ++ sb s).take ((Uv.uv s.size ++ sb s).length - 1) = Uv.uv s.size ++ (sb s).take (s.size - 1) := by
      rw [List.take_append, List.take_of_length_le (by simp; omega)]
      congr 2
      simp [hl]; omega
    rw [e1]
    have hn := num_read (pre := pre) (post := (sb s).take (s.size - 1)) (v := s.size) (by omega)
    unfold Rs.text
    rw [hn]
    simp only [ne_eq, not_true_eq_false, if_false]
    rw [if_neg (by omega)]
    unfold Rs.rest Rs.failAt
    rw [if_pos (by simp [hl]; omega)]
    simp
end

theorem read_item {most : Int} {x : Stp} (hok : x.Ok) (hf : x.fits = true) (hm : (x.s.size : Int) ≤ most) (pre post : List Nat) :
    rdItem most ⟨pre ++ (x.bytes ++ post), pre.length, 0, 0⟩ x.k = (x, ⟨pre ++ (x.bytes ++ post), pre.length + x.bytes.length, 0, 0⟩) := by
  obtain ⟨k, n, s⟩ := x
  obtain ⟨_, hn, hs⟩ := hok
  simp only at hn hs hm
  rcases fits_cases hf with ⟨e, h1, h2⟩ | ⟨e, h2⟩ | ⟨e, h2⟩ | ⟨e, h1, h2⟩ | ⟨e, h2⟩ | ⟨e, h1⟩ <;> simp only at e <;> subst e
  · simp only at h1 h2
    subst h2
    have hb : (⟨0, n, ⟨#[]⟩⟩ : Stp).bytes = [n] := by simp [Stp.bytes, Nat.mod_eq_of_lt (show n < 256 by omega)]
    rw [hb]
    have ht := take_read (pre := pre) (post := post) (b := [n]) (n := 1) rfl
    have e1 : ((1 : Nat) : Int) = 1 := rfl
    rw [e1] at ht
    unfold rdItem
    rw [if_pos rfl, ht]
    rfl
  · simp only at h2
    subst h2
    have hb : (⟨1, n, ⟨#[]⟩⟩ : Stp).bytes = Uv.uv n := by simp [Stp.bytes]
    rw [hb]
    unfold rdItem
    rw [if_neg (by simp), if_pos rfl, num_read hn]
  · simp only at h2
    subst h2
    have hb : (⟨2, n, ⟨#[]⟩⟩ : Stp).bytes = Uv.uv n := by simp [Stp.bytes]
    rw [hb]
    unfold rdItem
    rw [if_neg (by simp), if_neg (by simp), if_pos rfl, num_read hn]
  · simp only at h1 h2
    subst h2
    have hb : (⟨3, n, ⟨#[]⟩⟩ : Stp).bytes = fx n 4 := by simp [Stp.bytes, Nat.mod_eq_of_lt (show n < 4294967296 by omega)]
    rw [hb]
    have ht := take_read (pre := pre) (post := post) (b := fx n 4) (n := 4) (fx_length 4 n)
    have e1 : ((4 : Nat) : Int) = 4 := rfl
    rw [e1] at ht
    unfold rdItem
    rw [if_neg (by simp), if_neg (by simp), if_neg (by simp), if_pos rfl, ht, val_fx4 h1, fx_length]
  · simp only at h2
    subst h2
    have hb : (⟨4, n, ⟨#[]⟩⟩ : Stp).bytes = fx n 8 := by simp [Stp.bytes]
    rw [hb]
    have ht := take_read (pre := pre) (post := post) (b := fx n 8) (n := 8) (fx_length 8 n)
    have e1 : ((8 : Nat) : Int) = 8 := rfl
    rw [e1] at ht
    unfold rdItem
    rw [if_neg (by simp), if_neg (by simp), if_neg (by simp), if_neg (by simp), if_pos rfl, ht, val_fx8 hn, fx_length]
  · simp only at h1
    subst h1
    have hb : (⟨5, 0, s⟩ : Stp).bytes = Uv.uv s.size ++ sb s := by simp [Stp.bytes]
    rw [hb]
    unfold rdItem
    rw [if_neg (by simp), if_neg (by simp), if_neg (by simp), if_neg (by simp), if_neg (by simp), text_read hs hm, strOf_sb]

theorem read_cut {most : Int} {x : Stp} (hok : x.Ok) (hf : x.fits = true) (hm : (x.s.size : Int) ≤ most) (pre : List Nat) :
    0 < x.bytes.length ∧ (rdItem most ⟨pre ++ x.bytes.take (x.bytes.length - 1), pre.length, 0, 0⟩ x.k).2.err = 10 ∧ (rdItem most ⟨pre ++ x.bytes.take (x.bytes.length - 1), pre.length, 0, 0⟩ x.k).2.ea = pre.length := by
  obtain ⟨k, n, s⟩ := x
  obtain ⟨_, hn, hs⟩ := hok
  simp only at hn hs hm
  rcases fits_cases hf with ⟨e, h1, h2⟩ | ⟨e, h2⟩ | ⟨e, h2⟩ | ⟨e, h1, h2⟩ | ⟨e, h2⟩ | ⟨e, h1⟩ <;> simp only at e <;> subst e
  · simp only at h1 h2
    subst h2
    have hb : (⟨0, n, ⟨#[]⟩⟩ : Stp).bytes = [n % 256] := by simp [Stp.bytes]
    rw [hb]
    have ht := take_shortB (pre := pre) (b := []) (n := 1) (by simp)
    have e1 : ((1 : Nat) : Int) = 1 := rfl
    rw [e1] at ht
    unfold rdItem
    rw [if_pos rfl, show [n % 256].take ([n % 256].length - 1) = [] from rfl, ht]
    exact ⟨by simp, rfl, rfl⟩
  · have hb : (⟨1, n, s⟩ : Stp).bytes = Uv.uv n := by simp [Stp.bytes]
    have hp := Uv.uv_pos n
    rw [hb]
    unfold rdItem
    rw [if_neg (by simp), if_pos rfl, num_short hn (by omega)]
    exact ⟨hp, rfl, rfl⟩
  · have hb : (⟨2, n, s⟩ : Stp).bytes = Uv.uv n := by simp [Stp.bytes]
    have hp := Uv.uv_pos n
    rw [hb]
    unfold rdItem
    rw [if_neg (by simp), if_neg (by simp), if_pos rfl, num_short hn (by omega)]
    exact ⟨hp, rfl, rfl⟩
  · have hb : (⟨3, n, s⟩ : Stp).bytes = fx (n % 4294967296) 4 := by simp [Stp.bytes]
    have hl := fx_length 4 (n % 4294967296)
    rw [hb]
    have ht := take_shortB (pre := pre) (b := (fx (n % 4294967296) 4).take ((fx (n % 4294967296) 4).length - 1)) (n := 4) (by simp [hl])
    have e1 : ((4 : Nat) : Int) = 4 := rfl
    rw [e1] at ht
    unfold rdItem
    rw [if_neg (by simp), if_neg (by simp), if_neg (by simp), if_pos rfl, ht]
    exact ⟨by omega, rfl, rfl⟩
  · have hb : (⟨4, n, s⟩ : Stp).bytes = fx n 8 := by simp [Stp.bytes]
    have hl := fx_length 8 n
    rw [hb]
    have ht := take_shortB (pre := pre) (b := (fx n 8).take ((fx n 8).length - 1)) (n := 8) (by simp [hl])
    have e1 : ((8 : Nat) : Int) = 8 := rfl
    rw [e1] at ht
    unfold rdItem
    rw [if_neg (by simp), if_neg (by simp), if_neg (by simp), if_neg (by simp), if_pos rfl, ht]
    exact ⟨by omega, rfl, rfl⟩
  · have hb : (⟨5, n, s⟩ : Stp).bytes = Uv.uv s.size ++ sb s := by simp [Stp.bytes]
    have hp := Uv.uv_pos s.size
    rw [hb]
    unfold rdItem
    rw [if_neg (by simp), if_neg (by simp), if_neg (by simp), if_neg (by simp), if_neg (by simp)]
    exact ⟨by rw [List.length_append]; omega, text_short hs hm⟩

/-- A list of items, read where it was written. -/
theorem read_fold (most : Int) : ∀ (l : List Stp) (acc : List Stp) (pre post : List Nat), (∀ x ∈ l, x.Ok ∧ x.fits = true ∧ (x.s.size : Int) ≤ most) →
    (l.map Stp.k).foldl (rdStep most) (acc, ⟨pre ++ (itemsOut l ++ post), pre.length, 0, 0⟩) = (acc ++ l, ⟨pre ++ (itemsOut l ++ post), pre.length + (itemsOut l).length, 0, 0⟩)
  | [], acc, pre, post, _ => by simp [itemsOut]
  | x :: r, acc, pre, post, h => by
    obtain ⟨h1, h2, h3⟩ := h x (List.mem_cons_self ..)
    have ih := read_fold most r (acc ++ [x]) (pre ++ x.bytes) post (fun y hy => h y (List.mem_cons_of_mem _ hy))
    have e1 : itemsOut (x :: r) = x.bytes ++ itemsOut r := by simp [itemsOut]
    have e2 : pre ++ ((x.bytes ++ itemsOut r) ++ post) = (pre ++ x.bytes) ++ (itemsOut r ++ post) := by simp
    have e3 : (pre ++ x.bytes).length = pre.length + x.bytes.length := List.length_append
    rw [List.map_cons, List.foldl_cons, e1]
    have h4 := read_item h1 h2 h3 pre (itemsOut r ++ post)
    rw [← List.append_assoc x.bytes] at h4
    have h5 : rdStep most (acc, ⟨pre ++ (x.bytes ++ itemsOut r ++ post), pre.length, 0, 0⟩) x.k = (acc ++ [x], ⟨pre ++ (x.bytes ++ itemsOut r ++ post), pre.length + x.bytes.length, 0, 0⟩) := by
      unfold rdStep
      simp only [h4]
    rw [h5]
    rw [e2, ← e3, ih, e3, List.append_assoc acc, List.singleton_append, List.length_append, Nat.add_assoc]
theorem kinds_ok {most : Int} {l : List Stp} (h : ∀ x ∈ l, x.Ok ∧ x.fits = true ∧ (x.s.size : Int) ≤ most) : (l.map Stp.k).all kindOk = true := by
  rw [List.all_eq_true]
  intro k hk
  obtain ⟨x, hx, rfl⟩ := List.mem_map.1 hk
  exact fits_kindB (h x hx).2.1
theorem unp_read {most : Int} {l : List Stp} (h : ∀ x ∈ l, x.Ok ∧ x.fits = true ∧ (x.s.size : Int) ≤ most) : unp (l.map Stp.k) most (itemsOut l) = (l, 0, 0) := by
  have hf := read_fold most l [] [] [] h
  simp only [List.nil_append, List.append_nil, List.length_nil, Nat.zero_add] at hf
  unfold unp rdAll
  rw [if_pos (kinds_ok h), hf]
  simp [Rs.fin]
theorem unp_more {most : Int} {l : List Stp} (h : ∀ x ∈ l, x.Ok ∧ x.fits = true ∧ (x.s.size : Int) ≤ most) (b : Nat) : unp (l.map Stp.k) most (itemsOut l ++ [b]) = ([], 13, (itemsOut l).length) := by
  have hf := read_fold most l [] [] [b] h
  simp only [List.nil_append, List.length_nil, Nat.zero_add] at hf
  unfold unp rdAll
  rw [if_pos (kinds_ok h), hf]
  simp [Rs.fin]
theorem unp_less {most : Int} {l : List Stp} (h : ∀ x ∈ l, x.Ok ∧ x.fits = true ∧ (x.s.size : Int) ≤ most) (hpos : 0 < (itemsOut l).length) :
    ∃ q : Nat, unp (l.map Stp.k) most ((itemsOut l).take ((itemsOut l).length - 1)) = ([], 10, q) ∧ q < (itemsOut l).length := by
  rcases nil_or_snoc l with rfl | ⟨l', x, rfl⟩
  · simp [itemsOut] at hpos
  · have hx := h x (by simp)
    have hl : ∀ y ∈ l', y.Ok ∧ y.fits = true ∧ (y.s.size : Int) ≤ most := fun y hy => h y (by simp [hy])
    have e1 : itemsOut (l' ++ [x]) = itemsOut l' ++ x.bytes := by simp [itemsOut]
    obtain ⟨hc0, hc1, hc2⟩ := read_cut hx.1 hx.2.1 hx.2.2 (itemsOut l')
    have hf := read_fold most l' [] [] (x.bytes.take (x.bytes.length - 1)) hl
    simp only [List.nil_append, List.length_nil, Nat.zero_add] at hf
    have e2 : (itemsOut (l' ++ [x])).take ((itemsOut (l' ++ [x])).length - 1) = itemsOut l' ++ x.bytes.take (x.bytes.length - 1) := by
      rw [e1, List.take_append, List.take_of_length_le (by simp; omega), List.length_append]
      congr 2
      omega
    refine ⟨(itemsOut l').length, ?_, by rw [e1, List.length_append]; omega⟩
    rw [e2]
    unfold unp
    rw [if_pos (kinds_ok h)]
    have e3 : rdAll most ((l' ++ [x]).map Stp.k) ⟨itemsOut l' ++ x.bytes.take (x.bytes.length - 1), 0, 0, 0⟩ = rdStep most (l', ⟨itemsOut l' ++ x.bytes.take (x.bytes.length - 1), (itemsOut l').length, 0, 0⟩) x.k := by
      rw [List.map_append, rdAll_append]
      unfold rdAll
      rw [hf]
      rfl
    have e4 : (rdAll most ((l' ++ [x]).map Stp.k) ⟨itemsOut l' ++ x.bytes.take (x.bytes.length - 1), 0, 0, 0⟩).2.fin = (10, (itemsOut l').length) := by
      rw [e3]
      unfold rdStep
      rw [Rs.fin_bad (by simp only [hc1]; decide)]
      simp only [hc1, hc2]
    rw [e4, if_pos (by simp)]

/-! Back: what was read, written. -/

theorem take_back {s : Rs} {n : Nat} (h0 : s.err = 0) (h : (s.take n).2.err = 0) : n ≤ s.rest ∧ s.take n = ((s.bs.drop s.p).take n, s.go n) := by
  unfold Rs.take at h ⊢
  rw [if_neg (by simpa using h0), if_neg (by omega)] at h ⊢
  by_cases hr : (s.rest : Int) < n
  · rw [if_pos hr] at h
    rw [Rs.fail, Rs.failAt_yes _ h0 (by decide)] at h
    simp at h
  · rw [if_neg hr]
    exact ⟨by omega, rfl⟩
theorem num_back {s : Rs} (hok : s.Ok) (h0 : s.err = 0) (h : s.num.2.err = 0) : s.num.1 < 18446744073709551616 ∧ (Uv.uv s.num.1).length ≤ s.rest ∧ s.num.2 = s.go (Uv.uv s.num.1).length ∧ (s.bs.drop s.p).take (Uv.uv s.num.1).length = Uv.uv s.num.1 := by
  obtain ⟨v, k, x, hr, hv, ⟨rfl, hk, hn⟩ | ⟨hx, rfl, hn⟩⟩ := Rs.num_cases hok h0
  · rw [hn]
    obtain ⟨v', a1, a2, a3, a4, _, _⟩ := Uv.ru_taken (s.bs.drop s.p) 0 0 (by_drop hok.by_ s.p) (by omega) (by omega) (by rw [hr])
    rw [hr] at a1 a2
    simp only [Nat.pow_zero, Nat.mul_one, Nat.zero_add] at a1 a2
    subst a1 a2
    simp only [List.length_drop] at a3
    exact ⟨hv, a3, rfl, a4⟩
  · rw [hn] at h
    simp only at h
    omega
/-- One item: what it was read from. -/
theorem item_back {most : Int} {s : Rs} {k : Int} (hok : s.Ok) (h0 : s.err = 0) (hk : kindOk k = true) (h : (rdItem most s k).2.err = 0) :
    (rdItem most s k).1.Ok ∧ (rdItem most s k).1.fits = true ∧ (rdItem most s k).1.bytes.length ≤ s.rest ∧ (rdItem most s k).2 = s.go (rdItem most s k).1.bytes.length ∧ (s.bs.drop s.p).take (rdItem most s k).1.bytes.length = (rdItem most s k).1.bytes := by
  have hk2 : 0 ≤ k ∧ k ≤ 5 := by simpa [kindOk] using hk
  have hcases : k = 0 ∨ k = 1 ∨ k = 2 ∨ k = 3 ∨ k = 4 ∨ k = 5 := by omega
  have hrl : s.rest = s.bs.length - s.p := rfl
  have z : (0 : Nat) ≤ 140737488351232 := by omega
  rcases hcases with rfl | rfl | rfl | rfl | rfl | rfl
  · have e : rdItem most s 0 = (⟨0, (s.take 1).1.headD 0, ⟨#[]⟩⟩, (s.take 1).2) := rfl
    rw [e] at h ⊢
    simp only at h ⊢
    obtain ⟨a1, a2⟩ := take_back (n := 1) h0 h
    have e1 : ((1 : Nat) : Int) = 1 := rfl
    rw [e1] at a2
    have hb := Rs.take_by hok 1
    rw [a2] at hb ⊢
    simp only at hb ⊢
    have hl : ((s.bs.drop s.p).take 1).length = 1 := by simp; omega
    obtain ⟨c, hc⟩ := List.length_eq_one_iff.1 hl
    rw [hc] at hb ⊢
    have hc2 : c < 256 := hb c (by simp)
    have eb : (⟨0, [c].headD 0, ⟨#[]⟩⟩ : Stp).bytes = [c] := by simp [Stp.bytes, Nat.mod_eq_of_lt hc2]
    rw [eb]
    refine ⟨⟨by simp, by simp only [List.headD_cons]; omega, by simp [ByteArray.size]⟩, ?_, by simpa using a1, rfl, hc⟩
    simp only [Stp.fits, if_true, List.headD_cons, Bool.and_eq_true, decide_eq_true_eq]
    exact ⟨decide_eq_true (show c ≤ 255 by omega), empty_is⟩
  · have e : rdItem most s 1 = (⟨1, s.num.1, ⟨#[]⟩⟩, s.num.2) := rfl
    rw [e] at h ⊢
    simp only at h ⊢
    obtain ⟨a1, a2, a3, a4⟩ := num_back hok h0 h
    have eb : (⟨1, s.num.1, ⟨#[]⟩⟩ : Stp).bytes = Uv.uv s.num.1 := by simp [Stp.bytes]
    rw [eb]
    exact ⟨⟨by simp, a1, by simp [ByteArray.size]⟩, by simp [Stp.fits, empty_is], a2, a3, a4⟩
  · have e : rdItem most s 2 = (⟨2, s.num.1, ⟨#[]⟩⟩, s.num.2) := rfl
    rw [e] at h ⊢
    simp only at h ⊢
    obtain ⟨a1, a2, a3, a4⟩ := num_back hok h0 h
    have eb : (⟨2, s.num.1, ⟨#[]⟩⟩ : Stp).bytes = Uv.uv s.num.1 := by simp [Stp.bytes]
    rw [eb]
    exact ⟨⟨by simp, a1, by simp [ByteArray.size]⟩, by simp [Stp.fits, empty_is], a2, a3, a4⟩
  · have e : rdItem most s 3 = (⟨3, val (s.take 4).1, ⟨#[]⟩⟩, (s.take 4).2) := rfl
    rw [e] at h ⊢
    simp only at h ⊢
    obtain ⟨a1, a2⟩ := take_back (n := 4) h0 h
    have e1 : ((4 : Nat) : Int) = 4 := rfl
    rw [e1] at a2
    have hb := Rs.take_by hok 4
    have hv := Rs.val4 hok
    rw [a2] at hb hv ⊢
    simp only at hb hv ⊢
    have hl : ((s.bs.drop s.p).take 4).length = 4 := by simp; omega
    obtain ⟨B, hB⟩ : ∃ B, B = (s.bs.drop s.p).take 4 := ⟨_, rfl⟩
    rw [← hB] at hb hv hl ⊢
    have eb : (⟨3, val B, ⟨#[]⟩⟩ : Stp).bytes = B := by
      simp [Stp.bytes, Nat.mod_eq_of_lt hv]
      exact fx_val hb hl
    rw [eb, hl]
    exact ⟨⟨by simp, by simp only; omega, by simp [ByteArray.size]⟩, by simp [Stp.fits, empty_is]; omega, a1, rfl, hB.symm⟩
  · have e : rdItem most s 4 = (⟨4, val (s.take 8).1, ⟨#[]⟩⟩, (s.take 8).2) := rfl
    rw [e] at h ⊢
    simp only at h ⊢
    obtain ⟨a1, a2⟩ := take_back (n := 8) h0 h
    have e1 : ((8 : Nat) : Int) = 8 := rfl
    rw [e1] at a2
    have hb := Rs.take_by hok 8
    have hv := val8_lt hok
    rw [a2] at hb hv ⊢
    simp only at hb hv ⊢
    have hl : ((s.bs.drop s.p).take 8).length = 8 := by simp; omega
    obtain ⟨B, hB⟩ : ∃ B, B = (s.bs.drop s.p).take 8 := ⟨_, rfl⟩
    rw [← hB] at hb hv hl ⊢
    have eb : (⟨4, val B, ⟨#[]⟩⟩ : Stp).bytes = B := by
      simp [Stp.bytes]
      exact fx_val hb hl
    rw [eb, hl]
    exact ⟨⟨by simp, hv, by simp [ByteArray.size]⟩, by simp [Stp.fits, empty_is], a1, rfl, hB.symm⟩
  · have e : rdItem most s 5 = (⟨5, 0, strOf (s.text most).1⟩, (s.text most).2) := rfl
    have hby := (hok.text most).2
    rw [e] at h ⊢
    simp only at h ⊢
    have hq : s.num.2.err = 0 := by
      apply Classical.byContradiction
      intro hq
      unfold Rs.text at h
      rw [if_neg (by simpa using h0), if_pos hq] at h
      exact hq h
    obtain ⟨a1, a2, a3, a4⟩ := num_back hok h0 hq
    have hle := hok.le
    have hsz := hok.sz
    have ht : (s.text most).1.length = s.num.1 ∧ s.num.1 ≤ s.num.2.rest ∧ (s.text most).2 = s.num.2.go s.num.1 ∧ (s.text most).1 = (s.bs.drop s.num.2.p).take s.num.1 := by
      unfold Rs.text at h ⊢
      rw [if_neg (by simpa using h0), if_neg (by simpa using hq)] at h ⊢
      by_cases c1 : max most 0 < (s.num.1 : Int)
      · rw [if_pos c1, Rs.failAt_yes _ hq (by decide)] at h; simp at h
      rw [if_neg c1] at h ⊢
      by_cases c2 : s.num.2.rest < s.num.1
      · rw [if_pos c2, Rs.failAt_yes _ hq (by decide)] at h; simp at h
      rw [if_neg c2]
      refine ⟨?_, by omega, rfl, rfl⟩
      rw [a3] at c2 ⊢
      simp only [Rs.rest, Rs.go] at c2 ⊢
      simp
      omega
    obtain ⟨t1, t2, t3, t4⟩ := ht
    obtain ⟨B, hB⟩ : ∃ B, B = (s.text most).1 := ⟨_, rfl⟩
    rw [← hB] at t1 t4 hby ⊢
    rw [t3]
    have es : (strOf B).size = s.num.1 := by rw [strOf_size, t1]
    have eb : (⟨5, 0, strOf B⟩ : Stp).bytes = Uv.uv s.num.1 ++ B := by simp [Stp.bytes, es, sb_strOf hby]
    have hp2 : s.num.2.p = s.p + (Uv.uv s.num.1).length := by rw [a3]; rfl
    have hrest : s.num.2.rest = s.rest - (Uv.uv s.num.1).length := by rw [a3]; simp only [Rs.rest, Rs.go]; omega
    rw [eb]
    refine ⟨⟨by simp, by simp, by simp only [es]; omega⟩, by simp [Stp.fits], by rw [List.length_append]; omega, ?_, ?_⟩
    · rw [a3]
      simp only [Rs.go, List.length_append, t1, Nat.add_assoc]
    · rw [List.length_append, List.take_add, a4, List.drop_drop, ← hp2, t1, ← t4]

/-- All of them. -/
theorem fold_back (most : Int) (bs : List Nat) : ∀ (ks : List Int) (a : List Stp × Rs), ks.all kindOk = true → a.2.Ok → a.2.bs = bs → a.2.err = 0 → itemsOut a.1 = bs.take a.2.p → (∀ x ∈ a.1, x.Ok ∧ x.fits = true) →
    (ks.foldl (rdStep most) a).2.err = 0 → (ks.foldl (rdStep most) a).2.bs = bs ∧ itemsOut (ks.foldl (rdStep most) a).1 = bs.take (ks.foldl (rdStep most) a).2.p ∧ ∀ x ∈ (ks.foldl (rdStep most) a).1, x.Ok ∧ x.fits = true
  | [], a, _, _, hb, _, hi, hf, _ => ⟨hb, hi, hf⟩
  | k :: r, a, hk, hok, hb, h0, hi, hf, he => by
    simp only [List.all_cons, Bool.and_eq_true] at hk
    rw [List.foldl_cons] at he ⊢
    have he1 : (rdStep most a k).2.err = 0 := by
      apply Classical.byContradiction
      intro hne
      rw [rdFold_bad most r _ hne] at he
      exact hne he
    obtain ⟨b1, b2, b3, b4, b5⟩ := item_back hok h0 hk.1 he1
    refine fold_back most bs r _ hk.2 (rdItem_ok most hok k) ?_ he1 ?_ ?_ he
    · simp only [rdStep]; rw [b4]; exact hb
    · simp only [rdStep]
      have e1 : itemsOut (a.1 ++ [(rdItem most a.2 k).1]) = itemsOut a.1 ++ (rdItem most a.2 k).1.bytes := by simp [itemsOut]
      rw [e1, hi, b4]
      simp only [Rs.go]
      rw [List.take_add]
      congr 1
      rw [← hb]
      exact b5.symm
    · intro x hx
      simp only [rdStep, List.mem_append, List.mem_singleton] at hx
      rcases hx with hx | rfl
      · exact hf x hx
      · exact ⟨b1, b2⟩
theorem unp_back {ks : List Int} {most : Int} {bs : List Nat} (hby : By bs) (hl : bs.length ≤ 140737488351232) (h : (unp ks most bs).2.1 = 0) :
    (∀ x ∈ (unp ks most bs).1, x.Ok) ∧ pk (unp ks most bs).1 = (bs, 0) ∧ itemsOut (unp ks most bs).1 = bs ∧ (unp ks most bs).1.all Stp.fits = true := by
  unfold unp at h ⊢
  split at h
  · rename_i hk
    have ok0 : (⟨bs, 0, 0, 0⟩ : Rs).Ok := ⟨Nat.zero_le _, hby, hl, fun _ => rfl, fun h => absurd rfl h, by simp, Nat.zero_le _⟩
    simp only [hk, if_true]
    have hok := rdAll_ok most ks ok0
    split at h
    · rename_i hf
      exact absurd h hf
    · rename_i hf
      simp only [hf, if_false]
      have hf0 : (rdAll most ks ⟨bs, 0, 0, 0⟩).2.fin.1 = 0 := by simpa using hf
      have he : (rdAll most ks ⟨bs, 0, 0, 0⟩).2.err = 0 := by
        apply Classical.byContradiction
        intro hne
        rw [Rs.fin_bad hne] at hf0
        exact hne hf0
      obtain ⟨c1, c2, c3⟩ := fold_back most bs ks ([], ⟨bs, 0, 0, 0⟩) hk ok0 rfl rfl (by simp [itemsOut]) (fun x hx => by cases hx) he
      have hp : ¬ (rdAll most ks ⟨bs, 0, 0, 0⟩).2.p < (rdAll most ks ⟨bs, 0, 0, 0⟩).2.bs.length := by
        intro hlt
        unfold Rs.fin at hf0
        rw [if_neg (by simpa using he), if_pos hlt] at hf0
        simp at hf0
      have c2' : itemsOut (rdAll most ks ⟨bs, 0, 0, 0⟩).1 = bs := by
        rw [show (rdAll most ks ⟨bs, 0, 0, 0⟩).2.bs = bs from c1] at hp
        unfold rdAll at hp ⊢
        rw [c2, List.take_of_length_le (by omega)]
      have c3' : (rdAll most ks ⟨bs, 0, 0, 0⟩).1.all Stp.fits = true := List.all_eq_true.2 (fun x hx => (c3 x hx).2)
      refine ⟨fun x hx => (c3 x hx).1, ?_, c2', c3'⟩
      unfold pk
      rw [if_pos c3', c2']
  · simp at h
theorem stSum_bytes : ∀ {l : List Stp}, (∀ x ∈ l, x.fits = true) → stSum l ≤ l.length + (itemsOut l).length
  | [], _ => by simp [stSum]
  | x :: r, h => by
    have ih := stSum_bytes (l := r) (fun y hy => h y (List.mem_cons_of_mem _ hy))
    have e1 : itemsOut (x :: r) = x.bytes ++ itemsOut r := by simp [itemsOut]
    have hx : x.s.size ≤ x.bytes.length := by
      have hf := h x (List.mem_cons_self ..)
      obtain ⟨k, n, s⟩ := x
      rcases fits_cases hf with ⟨e, h1, h2⟩ | ⟨e, h2⟩ | ⟨e, h2⟩ | ⟨e, h1, h2⟩ | ⟨e, h2⟩ | ⟨e, h1⟩ <;> simp only at e <;> subst e
      · simp only at h2; subst h2; simp [ByteArray.size]
      · simp only at h2; subst h2; simp [ByteArray.size]
      · simp only at h2; subst h2; simp [ByteArray.size]
      · simp only at h2; subst h2; simp [ByteArray.size]
      · simp only at h2; subst h2; simp [ByteArray.size]
      · simp [Stp.bytes, sb_length]
    rw [e1, List.length_append, List.length_cons]
    simp only [stSum]
    omega
end Go.Proofs.Ytfgjlplfpjfnoaa
