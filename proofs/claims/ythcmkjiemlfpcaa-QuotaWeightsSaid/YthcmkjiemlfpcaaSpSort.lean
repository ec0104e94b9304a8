/- Spread's own closure, and sort.SliceStable over its row of places. -/
import Derived.Test.YthcmkjiemlfpcaaSpLay
import Derived.Test.YthcmkjiemlfpcaaSpP
import Derived.Test.YthcmkjiemlfpcaaInts
import Derived.BigQuiet
namespace Go.Proofs.Ythcmkjiemlfpcaa
open Go Go.RowKit Go.Proofs
set_option linter.unusedVariables false
set_option linter.unusedSimpArgs false

/-- A row of places, as it lies. -/
def nats (o : List Nat) : List Value := o.map (fun k : Nat => Value.int .i64 (k : Int))
theorem nats_length (o : List Nat) : (nats o).length = o.length := by simp [nats]
theorem nats_get {o : List Nat} {k i : Nat} (h : o[k]? = some i) : (nats o)[k]? = some (.int .i64 (i : Int)) := by unfold nats; rw [List.getElem?_map, h]; rfl
set_option maxHeartbeats 2000000 in
set_option maxRecDepth 100000 in
/-- The closure: G: where a place's element points; R: the rests. -/
theorem spless_is (g gr c cr Br Bo n : Nat) (W : World) (G : Nat → Nat) (R : List Int) (hG : ∀ t, G t < n) (hR : R.length = n) (hso : W.cell? ⟨Bo, 0, none⟩ = some (.slice (some ⟨g, 0, none⟩) n c)) (hsr : W.cell? ⟨Br, 0, none⟩ = some (.slice (some ⟨gr, 0, none⟩) n cr))
    (hc : ∀ t, t < n → W.cell? ⟨g, t, none⟩ = some (.int .i64 (G t : Nat))) (hr : ∀ t, t < n → W.cell? ⟨gr, t, none⟩ = some (.int .i64 (at0 R t))) (i j : Nat) (hi : i < n) (hj : j < n) (hn : n ≤ 64) :
    Calls Try.prog 43 #[.int .i64 i, .int .i64 j, .pointer (some ⟨Br, 0, none⟩), .pointer (some ⟨Bo, 0, none⟩)] W fun e w' => e = .returned (.bool (decide (at0 R (G j) < at0 R (G i)))) ∧ ∃ q, w' = W.drewN q := by
  have ci := hc i hi
  have cj := hc j hj
  have ri := hr (G i) (hG i)
  have rj := hr (G j) (hG j)
  have gi := hG i
  have gj := hG j
  obtain ⟨a, ha⟩ : ∃ a, a = G i := ⟨_, rfl⟩
  obtain ⟨b, hb⟩ : ∃ b, b = G j := ⟨_, rfl⟩
  rw [← ha] at ci ri gi ⊢
  rw [← hb] at cj rj gj ⊢
  obtain ⟨x, hx⟩ : ∃ x, x = at0 R a := ⟨_, rfl⟩
  obtain ⟨y, hy⟩ : ∃ y, y = at0 R b := ⟨_, rfl⟩
  rw [← hx] at ri ⊢
  rw [← hy] at rj ⊢
  have i0 : (0 : Int) ≤ (i : Int) := by omega
  have i1 : (i : Int) < (n : Int) := by omega
  have j0 : (0 : Int) ≤ (j : Int) := by omega
  have j1 : (j : Int) < (n : Int) := by omega
  have a0 : (0 : Int) ≤ (a : Int) := by omega
  have a1 : (a : Int) < (n : Int) := by omega
  have b0 : (0 : Int) ≤ (b : Int) := by omega
  have b1 : (b : Int) < (n : Int) := by omega
  clear hc hr hG ha hb hx hy hR
  go_enter Try.func43, Try.ntmps43
  go_wp2
  go_quiet (fail)
  go_wp2
  go_ret
  exact ⟨rfl, nq, rfl⟩

/-- The row written anew, one cell an element. -/
theorem own_putRow1 {α : Type} [Inhabited α] (enc : α → Value) {w : World} {base g n cap : Nat} {e : TypeId} {xs : List Value} (h : w.ownsRow base e 1 (.slice (some ⟨g, 0, none⟩) n cap) n xs) (d : Array α) (hd : d.size = n) (q : Nat) :
    (Sort.putRow enc (Sort.ahead w q) g 0 d).ownsRow base e 1 (.slice (some ⟨g, 0, none⟩) n cap) n (d.toList.map enc) ∧ w.grownBy (Sort.putRow enc (Sort.ahead w q) g 0 d) (some g) := by
  rcases h.2 with ⟨h', _⟩ | ⟨g', cap', cur, h', hb, hg, hnc, hcm, hcs, htake⟩
  · simp at h'
  · simp only [Value.slice.injEq, Option.some.injEq, Addr.mk.injEq, and_true, true_and] at h'
    obtain ⟨rfl, rfl⟩ := h'
    refine ⟨⟨by simpa using hd, .inr ⟨g, cap, Sort.putCells enc 0 d cur, rfl, hb, ?_, hnc, hcm, ?_, ?_⟩⟩, ⟨rfl, rfl, rfl, ?_, ?_⟩⟩
    · simp [Sort.putRow, Sort.mapBlock, Sort.ahead, Array.getElem?_modify, hg, Sort.onCells]
    · simpa [Sort.putCells] using hcs
    · apply List.ext_getElem?
      intro j
      by_cases hj : j < n
      · rw [List.getElem?_take_of_lt (by omega)]
        simp [Sort.putCells, hd, hj, show j < cur.size by omega, show j < d.size by omega]
      · rw [List.getElem?_eq_none (by simp; omega), List.getElem?_eq_none (by simp; omega)]
    · simp [Sort.putRow, Sort.mapBlock, Sort.ahead]
    · intro j hj hne
      have hgj : ¬ g = j := fun e => hne (by rw [e])
      simp [Sort.putRow, Sort.mapBlock, Sort.ahead, Array.getElem?_modify, hgj]
theorem grow_grown (w : World) (os : Array Obj) (r : Option Nat) : w.grownBy (Sort.grow w os) r := by
  refine ⟨rfl, rfl, rfl, by simp [Sort.grow], fun j hj _ => ?_⟩
  simp [Sort.grow, Array.getElem?_append_left hj]
theorem grown_then {a b c : World} {r : Option Nat} (h : a.grownBy b r) (k : b.grownBy c r) : a.grownBy c r := ⟨k.os.trans h.os, k.tape.trans h.tape, k.output.trans h.output, Nat.le_trans h.size k.size, fun j hj hne => (k.block j (Nat.lt_of_lt_of_le hj h.size) hne).trans (h.block j hj hne)⟩
theorem ext_all {α : Type} {n : Nat} (a : Array α) (h : a.size = n) : a.extract 0 n = a := by subst h; simp
/-- A place below n. -/
abbrev Pl (n : Nat) := {k : Nat // k < n}
def encP {n : Nat} (x : Pl n) : Value := .int .i64 (x.val : Int)
noncomputable def spT : TypeInfo := (Try.prog.info? 56).get (by kernel_rfl)
noncomputable def spE : TypeInfo := (Try.prog.info? 3).get (by kernel_rfl)
theorem spK (n : Nat) (h2 : 2 ≤ n) : Lib.swapperK n spE 2 = 5 := by
  have a : spE.hasPointers = false := by kernel_rfl
  have b : spE.bytes = 8 := by kernel_rfl
  have c : (n == 0) = false := by simp; omega
  have d : (n == 1) = false := by simp; omega
  simp [Lib.swapperK, a, b, c, d]
/-- Behind sort.SliceStable: the places, those that stand ahead first. -/
def SpSorted (w : World) (base g c n : Nat) (R : List Int) (e : Ending) (w' : World) : Prop :=
  e = .returned (.tuple #[]) ∧ ∃ o : List Nat, o.Perm (List.range n) ∧ o.Pairwise (fun x y => bef R y x = false) ∧ w'.ownsRow base 3 1 (.slice (some ⟨g, 0, none⟩) n c) n (nats o) ∧ w.grownBy w' (some g)
theorem spsort_one (base g c : Nat) (R : List Int) (lf : Fn) (la lb : Array Value) (w : World) (ho : w.ownsRow base 3 1 (.slice (some ⟨g, 0, none⟩) 1 c) 1 (nats (List.range 1))) :
    Calls Try.prog 42 #[.iface 56 (.slice (some ⟨g, 0, none⟩) 1 c), .func lf la lb] w (SpSorted w base g c 1 R) :=
  (Any.sort_SliceStable_tiny sg8 56 3 spT spE (by kernel_rfl) (by kernel_rfl) (by kernel_rfl) (by kernel_rfl) 2 (fun _ => by kernel_rfl) (some ⟨g, 0, none⟩) 1 c (Nat.le_refl _) 50 (by kernel_rfl) lf la lb w).mono (by
    rintro e w' ⟨rfl, os, rfl⟩
    exact ⟨rfl, List.range 1, List.Perm.refl _, List.pairwise_singleton _ _, ho.kept (grow_grown w os none) (by simp [Value.ownBlock]), grow_grown w os _⟩)
theorem spsort_many (base Br Bo g gr c cr n : Nat) (R : List Int) (w : World) (ho : w.ownsRow base 3 1 (.slice (some ⟨g, 0, none⟩) n c) n (nats (List.range n))) (h2 : 2 ≤ n) (hn : n ≤ 64) (hR : R.length = n)
    (hso : w.cell? ⟨Bo, 0, none⟩ = some (.slice (some ⟨g, 0, none⟩) n c)) (hsr : w.cell? ⟨Br, 0, none⟩ = some (.slice (some ⟨gr, 0, none⟩) n cr)) (hr : ∀ t, t < n → w.cell? ⟨gr, t, none⟩ = some (.int .i64 (at0 R t)))
    (o1 : Bo < w.heap.size) (o2 : Bo ≠ g) (r1 : Br < w.heap.size) (r2 : Br ≠ g) (q1 : gr < w.heap.size) (q2 : gr ≠ g) :
    Calls Try.prog 42 #[.iface 56 (.slice (some ⟨g, 0, none⟩) n c), .func (.func 43) #[] #[.pointer (some ⟨Br, 0, none⟩), .pointer (some ⟨Bo, 0, none⟩)]] w (SpSorted w base g c n R) := by
  haveI : Inhabited (Pl n) := ⟨⟨0, by omega⟩⟩
  obtain ⟨dl, hdl⟩ : ∃ dl : List (Pl n), dl.map Subtype.val = List.range n := ⟨(List.range n).attach.map (fun x => ⟨x.1, by have := x.2; rwa [List.mem_range] at this⟩), by rw [List.map_map]; exact List.attach_map_subtype_val _⟩
  obtain ⟨d, hd⟩ : ∃ d : Array (Pl n), d = dl.toArray := ⟨_, rfl⟩
  have hlen : dl.length = n := by have := congrArg List.length hdl; simpa using this
  have hds : d.size = n := by rw [hd]; simpa using hlen
  have hdv : d.toList.map Subtype.val = List.range n := by rw [hd]; exact hdl
  have hget : ∀ j, j < n → (d[j]!).val = j := fun j hj => by
    have h := congrArg (fun l => l[j]?) hdv
    simp only [List.getElem?_map, List.getElem?_range hj] at h
    rw [getElem!_pos d j (by omega)]
    simpa [show j < d.size by omega] using h
  have hgl : g < w.heap.size := (ho.lt g rfl).2
  have hH : Sort.Holds encP w g 0 d := by
    intro j hj
    have hj' : j < n := by omega
    refine ⟨?_, by rw [Nat.zero_add]; exact ho.frozenAt j⟩
    rw [Nat.zero_add, ho.cellAt j (by omega), nats_get (i := j) (by simp [hj'])]
    unfold encP
    rw [hget j hj']
  have hless : LessReads Try.prog 43 #[.pointer (some ⟨Br, 0, none⟩), .pointer (some ⟨Bo, 0, none⟩)] encP (fun x y : Pl n => decide (at0 R y.val < at0 R x.val)) g 0 d.size w := by
    intro m os dk hs i j hi hj
    have e : sortWorld encP w g 0 m dk os = Sort.putRow encP (Sort.grow (Sort.ahead w m) os) g 0 dk := by
      unfold sortWorld; rw [Sort.putRow_grow _ (Sort.ahead w m) _ g 0 _ hgl]
    have hHg : Sort.Holds encP (Sort.grow (Sort.ahead w m) os) g 0 d := Sort.holds_grow _ _ _ g 0 d hgl (Sort.holds_ahead _ _ _ _ _ _ hH)
    have hfar : ∀ (b k : Nat) (v : Value), w.cell? ⟨b, k, none⟩ = some v → b < w.heap.size → b ≠ g → (Sort.putRow encP (Sort.grow (Sort.ahead w m) os) g 0 dk).cell? ⟨b, k, none⟩ = some v := fun b k v hv hb hbg => by
      rw [Sort.cell?_putRow_other _ _ g 0 dk _ (Or.inl hbg), Sort.cell?_grow _ _ _ hb]
      exact hv
    refine spless_is g gr c cr Br Bo n _ (fun t => dk[t]!.val) R (fun t => dk[t]!.property) hR ?_ ?_ (fun t ht => ?_) (fun t ht => ?_) i j (by omega) (by omega) hn
    · rw [e]; exact hfar Bo 0 _ hso o1 o2
    · rw [e]; exact hfar Br 0 _ hsr r1 r2
    · rw [e]
      have := Sort.cell?_putRow encP _ g 0 d dk hHg hs t (by omega)
      rw [Nat.zero_add] at this
      exact this
    · rw [e]; exact hfar gr t _ (hr t ht) q1 q2
  have hag : AgA (fun x y : Pl n => decide (at0 R y.val < at0 R x.val)) (fun x y : Pl n => bef R x.val y.val) d.size d := by
    intro i j hij hj
    have h1 := hget i (by omega)
    have h2 := hget j (by omega)
    have h3 : decide ((d[j]!).val < (d[i]!).val) = false := decide_eq_false (by omega)
    show decide (_) = bef R _ _
    unfold bef
    rw [h3, Bool.and_false, Bool.or_false]
  have hO : Sort.SWO (fun x y : Pl n => bef R x.val y.val) := ⟨fun x => (bef_swo R).irrefl _, fun x y z => (bef_swo R).trans _ _ _, fun x y z => (bef_swo R).ntrans _ _ _⟩
  have hS := sliceStable_is sg8 56 3 spT spE (by kernel_rfl) (by kernel_rfl) (by kernel_rfl) (by kernel_rfl) 2 (fun _ => by kernel_rfl) (by kernel_rfl) (fun _ => by kernel_rfl) encP (fun _ => rfl)
    (fun x y : Pl n => decide (at0 R y.val < at0 R x.val)) (fun x y : Pl n => bef R x.val y.val) hO 43 #[.pointer (some ⟨Br, 0, none⟩), .pointer (some ⟨Bo, 0, none⟩)]
    (enters_of Try.func43 (by kernel_rfl) rfl) g 0 c d (by omega) (by omega) 53 (by rw [spK _ (by omega)]; kernel_rfl) true
    (fun args W => run_callFunc_extern Try.func53 (by kernel_rfl) (by kernel_rfl) (by kernel_rfl) (e := Extern.ReflectliteSwapper.swap true) (by kernel_rfl) args W) w hless hH hgl hag
  rw [hds] at hS
  refine Calls.mono hS ?_
  rintro e w' ⟨rfl, d', m, os, hp, hso', rfl⟩
  obtain ⟨hp1, _, hp3⟩ := hp
  have hs' : d'.size = n := hp1.trans hds
  have e1 : d'.extract 0 n = d' := ext_all d' hs'
  have e2 : d.extract 0 n = d := ext_all d hds
  rw [e1, e2] at hp3
  have ho' := own_putRow1 encP ho d' hs' m
  have hmap : d'.toList.map encP = nats (d'.toList.map Subtype.val) := by
    unfold nats encP
    rw [List.map_map]
    rfl
  rw [hmap] at ho'
  refine ⟨rfl, d'.toList.map Subtype.val, hdv ▸ hp3.map _, ?_, ?_, ?_⟩
  · rw [List.pairwise_iff_getElem]
    intro i j hi hj hij
    have hi' : i < d'.size := by simpa using hi
    have hj' : j < d'.size := by simpa using hj
    have := hso' i j (Nat.zero_le _) hij (by omega)
    rw [getElem!_pos d' i hi', getElem!_pos d' j hj'] at this
    simpa using this
  · exact ho'.1.kept (grow_grown _ os none) (by simp [Value.ownBlock])
  · exact grown_then ho'.2 (grow_grown _ os _)
end Go.Proofs.Ythcmkjiemlfpcaa
