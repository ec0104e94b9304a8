/- Conversions between texts and slices of bytes, as laws for a walk; rows that bear a mark behind their last cell. -/
import Derived.Test.YtmdpncjffikmiaaApp8
import Derived.Test.YtmdpncjffikmiaaOctCmp
import Derived.Laws.IdiomStrings
import Derived.Laws.BytesString
namespace Go.Proofs.Ytmdpncjffikmiaa
open Go Go.RowKit
set_option linter.unusedVariables false

/-- A block that is known cell by cell; no cell of it is frozen. -/
def Row (w : World) (g : Nat) (e : TypeId) (cs : List Value) : Prop :=
  ∃ lo hi, w.heap[g]? = some (.cells cs.toArray e (lo, hi)) ∧ (cs.length ≤ lo ∨ hi ≤ lo)

theorem Row.lt {w : World} {g : Nat} {e : TypeId} {cs : List Value} (h : Row w g e cs) : g < w.heap.size := by
  obtain ⟨lo, hi, h, _⟩ := h
  exact (Array.getElem?_eq_some_iff.1 h).1
theorem Row.cell {w : World} {g : Nat} {e : TypeId} {cs : List Value} (h : Row w g e cs) (k : Nat) : w.cell? ⟨g, k, none⟩ = cs[k]? := by
  obtain ⟨lo, hi, h, _⟩ := h
  rw [cell_of_row w g k cs.toArray e (lo, hi) h]
  simp
theorem Row.frozen {w : World} {g : Nat} {e : TypeId} {cs : List Value} (h : Row w g e cs) {k : Nat} (hk : k < cs.length) : w.frozen? ⟨g, k, none⟩ = false := by
  obtain ⟨lo, hi, h, hm⟩ := h
  simp only [World.frozen?, h]
  simp
  omega
theorem Row.set_ {w : World} {g : Nat} {e : TypeId} {cs : List Value} (h : Row w g e cs) (k : Nat) (u : Value) : Row (w.setCell ⟨g, k, none⟩ u) g e (cs.set k u) := by
  obtain ⟨lo, hi, h, hm⟩ := h
  refine ⟨lo, hi, ?_, by simpa using hm⟩
  simp only [World.setCell, Array.getElem?_modify, h]
  simp
theorem Row.below {w w' : World} {g : Nat} {e : TypeId} {cs : List Value} (h : Row w g e cs) (hb : Below w.heap.size w w') : Row w' g e cs := by
  have hl := h.lt
  obtain ⟨lo, hi, h, hm⟩ := h
  exact ⟨lo, hi, (hb.block g hl).trans h, hm⟩
theorem Row.rd {w : World} {g : Nat} {e : TypeId} {cs : List Value} (h : Row w g e cs) : Rd w (some ⟨g, 0, none⟩) cs := by
  intro _
  exact ⟨g, 0, rfl, h.lt, fun k u hu => by rw [Nat.zero_add, h.cell k]; exact hu⟩
theorem Row.grown {w : World} {g : Nat} (k : Nat) (u : Value) : w.grownBy (w.setCell ⟨g, k, none⟩ u) (some g) :=
  ⟨rfl, rfl, rfl, by simp [World.setCell], fun j hj hne => Below.heap_setCell w ⟨g, k, none⟩ u j (fun e => hne (by rw [e]))⟩

theorem u8_nat {b : Nat} (h : b < 256) : (UInt8.ofNat b).toNat = b := by
  rw [UInt8.toNat_ofNat']
  exact Nat.mod_eq_of_lt h

theorem b8_set' (bs : List Nat) (k b : Nat) : (b8 bs).set k (Value.int .u8 (b : Int)) = b8 (bs.set k b) := by simp [b8, List.map_set]

/-- Bytes as a text. -/
def strOf (bs : List Nat) : ByteArray := ⟨(bs.map UInt8.ofNat).toArray⟩
theorem sb_strOf {bs : List Nat} (h : By bs) : sb (strOf bs) = bs := by
  unfold sb strOf
  simp only [List.map_map]
  refine (List.map_congr_left (fun b hb => ?_)).trans (List.map_id _)
  simp only [Function.comp_apply, id]
  exact u8_nat (h b hb)
theorem strOf_size (bs : List Nat) : (strOf bs).size = bs.length := by simp [strOf, ByteArray.size]
theorem strOf_sb (s : ByteArray) : strOf (sb s) = s := sb_inj (sb_strOf (sb_by s))

theorem b8_sb (s : ByteArray) : b8 (sb s) = s.data.toList.map fun b => Value.int .u8 (b.toNat : Int) := by
  unfold b8 sb
  rw [List.map_map]
  rfl

section
variable {P : Program}

theorem wpList_bytes (w : World) {ops : Array Oper} {rest : List Oper} {o : Oper} {a : Act} {Q : Exit → Act → World → Prop} (hgd : o.guard = none) (x : Operand) (src dst e : TypeId)
    (ho : o.op = .convert src dst x) (hs : P.underlying src = some .string) (hd : P.underlying dst = some (.slice e)) (he : P.underlying e = some (.int .u8))
    (s : ByteArray) (hx : a.eval x = .string s)
    (h : ∀ c w' zs, Row w' w.heap.size e (b8 (sb s) ++ zs) → s.size ≤ c → Below w.heap.size w w' → (b8 (sb s) ++ zs).length = c → wpList P ops Q rest (a.put o.dst (.slice (some ⟨w.heap.size, 0, none⟩) s.size c)) w') :
    wpList P ops Q (o :: rest) a w := by
  refine wpList_plain hgd fun K hK => ?_
  have hrun := run_bytes_of_string (P := P) w src dst e s hs hd he
  unfold Oper.wp
  simp [execOp, ho, hx, hrun, Result.andThen]
  have hge := grownCap_ge w s.size 0 e
  have hrow : bytesRow s (grownCap w s.size 0 e) = (b8 (sb s) ++ List.replicate (grownCap w s.size 0 e - s.size) (Value.int .u8 0)).toArray := by
    unfold bytesRow
    rw [b8_sb]
    apply Array.ext'
    simp
  refine hK _ _ (h _ _ (List.replicate (grownCap w s.size 0 e - s.size) (Value.int .u8 0)) ?_ hge ?_ ?_)
  · rw [hrow]
    exact ⟨_, _, heap_alloc_new w.drew _, .inl (by simp)⟩
  · exact undrew ((Below.refl w.heap.size w.drew).alloc (Nat.le_refl _) _)
  · simp [b8_length, sb_length]; omega

theorem wpList_str (w : World) {ops : Array Oper} {rest : List Oper} {o : Oper} {a : Act} {Q : Exit → Act → World → Prop} (hgd : o.guard = none) (x : Operand) (src dst e : TypeId)
    (ho : o.op = .convert src dst x) (hs : P.underlying src = some (.slice e)) (he : P.underlying e = some (.int .u8)) (hd : P.underlying dst = some .string)
    (A : Option Addr) (n c : Nat) (bs : List Nat) (hx : a.eval x = .slice A n c) (hr : Rd w A (b8 bs)) (hn : bs.length = n) (hby : By bs)
    (h : wpList P ops Q rest (a.put o.dst (.string (strOf bs))) w) :
    wpList P ops Q (o :: rest) a w := by
  refine wpList_plain hgd fun K hK => ?_
  have hrun : (convert src dst (.slice A n c)).run P w = .ok (.string (strOf bs)) w := by
    subst hn
    by_cases h0 : bs = []
    · subst h0
      rcases A with _ | g
      · rw [run_convert_bytes_string w src dst e none _ c hs he hd]
        simp [Conv.bytesToString, strOf]
        rfl
      · exact run_convert_bytes_back w src dst e g c [] hs he hd (fun j hj => absurd hj (by simp))
    · obtain ⟨g, off, rfl, _, hc⟩ := hr (by simpa [b8] using h0)
      have hl : bs.length = (bs.map UInt8.ofNat).length := by simp
      rw [hl]
      refine run_convert_bytes_back w src dst e ⟨g, off, none⟩ c (bs.map UInt8.ofNat) hs he hd (fun j hj => ?_)
      rw [add_zero_off]
      have hj' : j < bs.length := by simpa using hj
      have := hc j (.int .u8 (bs[j] : Int)) (by rw [b8_get, List.getElem?_eq_getElem hj']; rfl)
      rw [this]
      have hb := hby _ (List.getElem_mem hj')
      simp only [List.getElem_map]
      rw [u8_nat hb]
  unfold Oper.wp
  simp [execOp, ho, hx, hrun, Result.andThen]
  exact hK _ _ h
end
end Go.Proofs.Ytmdpncjffikmiaa
