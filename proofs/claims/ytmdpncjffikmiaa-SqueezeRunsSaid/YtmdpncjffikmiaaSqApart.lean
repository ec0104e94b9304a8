/- apart: each literal is written full, then grown: all are as they were left. -/
import Derived.Test.YtmdpncjffikmiaaSqApart1
import Derived.Test.YtmdpncjffikmiaaS2
namespace Go.Proofs.Ytmdpncjffikmiaa
open Go Go.RowKit
set_option linter.unusedVariables false
set_option linter.unusedSimpArgs false

/-- The blocks of the tokens' bytes. -/
def LitB (l : List TkV) (q : Nat) : Prop := ∃ x ∈ l, ∃ a : Addr, x.A = some a ∧ a.block = q
/-- So far written over. -/
def Marks (l l' : List TkV) (k : Nat) : Prop := l'.length = l.length ∧ ∀ (j : Nat) (x : TkV), l[j]? = some x → ∃ y, l'[j]? = some y ∧ y.A = x.A ∧ y.c = x.c ∧ y.lit.length = x.lit.length ∧ y.d = x.d ∧ y.l = x.l ∧ (j < k → y.lit = List.replicate x.lit.length (j % 100))
theorem Marks.zero (l : List TkV) : Marks l l 0 := ⟨rfl, fun j x hx => ⟨x, hx, rfl, rfl, rfl, rfl, rfl, fun h => by omega⟩⟩
theorem Marks.back {l l' : List TkV} {k : Nat} (h : Marks l l' k) {j : Nat} {y : TkV} (hy : l'[j]? = some y) : ∃ x, l[j]? = some x ∧ y.A = x.A ∧ (j < k → y.lit = List.replicate x.lit.length (j % 100)) := by
  have hj : j < l.length := by rw [← h.1]; exact (List.getElem?_eq_some_iff.1 hy).1
  obtain ⟨y', h1, h2, _, h3, _, _, h4⟩ := h.2 j l[j] (List.getElem?_eq_getElem hj)
  rw [hy] at h1
  injection h1 with h1
  subst h1
  exact ⟨_, List.getElem?_eq_getElem hj, h2, h4⟩
theorem Marks.litB {l l' : List TkV} {k : Nat} (h : Marks l l' k) {j : Nat} {y : TkV} (hy : l'[j]? = some y) {a : Addr} (ha : y.A = some a) : LitB l a.block := by
  obtain ⟨x, hx, h1, _⟩ := h.back hy
  exact ⟨x, List.mem_of_getElem? hx, a, h1.symm.trans ha, rfl⟩
theorem Marks.next {l l' l2 : List TkV} {k : Nat} (h : Marks l l' k) {xA : Option Addr} {xc : Nat} {xd xl : Int} {lit : List Nat} (hk : l'[k]? = some ⟨xA, xc, lit, xd, xl⟩) (h1 : l2[k]? = some ⟨xA, xc, List.replicate lit.length (k % 100), xd, xl⟩) (h2 : ∀ j, j ≠ k → l2[j]? = l'[j]?) : Marks l l2 (k + 1) := by
  have hlen : l2.length = l'.length := by
    have hkl := (List.getElem?_eq_some_iff.1 hk).1
    have hkl2 := (List.getElem?_eq_some_iff.1 h1).1
    apply Nat.le_antisymm
    · apply Nat.le_of_not_lt
      intro hn
      by_cases e : l'.length = k
      · omega
      · have := h2 l'.length e
        rw [List.getElem?_eq_none (Nat.le_refl _), List.getElem?_eq_getElem hn] at this
        cases this
    · apply Nat.le_of_not_lt
      intro hn
      by_cases e : l2.length = k
      · omega
      · have := h2 l2.length e
        rw [List.getElem?_eq_none (Nat.le_refl _), List.getElem?_eq_getElem hn] at this
        cases this
  refine ⟨hlen.trans h.1, fun j x hx => ?_⟩
  obtain ⟨y, q1, q2, q3, q4, q5, q6, q7⟩ := h.2 j x hx
  by_cases e : j = k
  · subst e
    rw [hk] at q1
    injection q1 with q1
    subst q1
    refine ⟨_, h1, q2, q3, by simpa using q4, q5, q6, fun _ => ?_⟩
    simp only at q4
    simp only
    rw [q4]
  · exact ⟨y, (h2 j e).trans q1, q2, q3, q4, q5, q6, fun hj => q7 (by omega)⟩
theorem rep_lay (m p : Nat) (lit : List Nat) (hp : p < lit.length) : (List.replicate p m ++ lit.drop p).set p m = List.replicate (p + 1) m ++ lit.drop (p + 1) := by
  rw [List.set_append_right _ _ (by simp), List.length_replicate, Nat.sub_self, List.drop_eq_getElem_cons hp, List.set_cons_zero, List.replicate_succ', List.append_assoc]
  rfl
theorem rep_get (m p : Nat) (lit : List Nat) (hp : p < lit.length) : (List.replicate p m ++ lit.drop p)[p]? = some lit[p] := by
  rw [List.getElem?_append_right (by simp), List.length_replicate, Nat.sub_self, List.getElem?_drop, Nat.add_zero, List.getElem?_eq_getElem hp]
theorem own_at0 {W : World} {B n c : Nat} {g off : Nat} {e : TypeId} {xs : List Value} (h : W.ownsRow B e 1 (.slice (some ⟨g, off, none⟩) n c) n xs) : off = 0 := by
  rcases h.2 with ⟨hv, _⟩ | ⟨g', cap, cur, hv, _⟩
  · simp at hv
  · simp at hv; exact hv.1.2

/-- Behind the marks: what stays when rows are grown. -/
structure Gr (w W : World) (B : Nat) (A : Option Addr) (N c : Nat) (l : List TkV) (k : Nat) : Prop where
  row : W.ownsRow B 37 3 (.slice A N c) N (tkCells l)
  lit : ∀ (j : Nat) (x : TkV), l[j]? = some x → Rd W x.A (b8 x.lit) ∧ (k ≤ j → OwnTk W B x)
  kept : KeptS w W (LitB l)
theorem Gr.start {w W : World} {B N c : Nat} {A : Option Addr} {l : List TkV} (h : Ts W B (.slice A N c) N l) (hk : KeptS w W (LitB l)) : Gr w W B A N c l 0 :=
  ⟨h.row, fun j x hx => ⟨rd_own (h.lit x (List.mem_of_getElem? hx)), fun _ => h.lit x (List.mem_of_getElem? hx)⟩, hk⟩
theorem Gr.next {w W W0 W' : World} {B N c : Nat} {A : Option Addr} {l : List TkV} {k : Nat} {x : TkV} (h : Gr w W B A N c l k) (h0 : Ts W0 B (.slice A N c) N l) (hx : l[k]? = some x) (hr : Rd W' x.A (b8 x.lit)) (hk : KeptS W W' (fun q => (Value.slice x.A x.lit.length x.c).ownBlock = some q)) : Gr w W' B A N c l (k + 1) := by
  have hoff : ∀ a : Addr, A = some a → ¬ (Value.slice x.A x.lit.length x.c).ownBlock = some a.block := by
    intro a ha e
    cases hxa : x.A with
    | none => rw [hxa] at e; simp [Value.ownBlock] at e
    | some b =>
      rw [hxa] at e
      simp only [Value.ownBlock, Option.some.injEq] at e
      have := h0.off x (List.mem_of_getElem? hx) b hxa
      rw [ha] at this
      simp only [Value.ownBlock, ne_eq, Option.some.injEq] at this
      exact this e.symm
  refine ⟨own_keptS h.row hk (fun q hq => ?_), fun j y hy => ?_, h.kept.trans hk (fun q hq => ?_)⟩
  · cases hA : A with
    | none => rw [hA] at hq; simp [Value.ownBlock] at hq
    | some a =>
      rw [hA] at hq
      simp only [Value.ownBlock, Option.some.injEq] at hq
      subst hq
      exact hoff a hA
  · by_cases e : j = k
    · subst e
      rw [hx] at hy
      injection hy with hy
      subst hy
      exact ⟨hr, fun h => by omega⟩
    · have hne : ∀ b : Addr, y.A = some b → ¬ (Value.slice x.A x.lit.length x.c).ownBlock = some b.block := by
        intro b hb e2
        cases hxa : x.A with
        | none => rw [hxa] at e2; simp [Value.ownBlock] at e2
        | some a =>
          rw [hxa] at e2
          simp only [Value.ownBlock, Option.some.injEq] at e2
          exact h0.ne hx hy (fun e3 => e e3.symm) hxa hb e2
      refine ⟨rd_kept (h.lit j y hy).1 hk hne, fun hj => own_keptS ((h.lit j y hy).2 (by omega)) hk (fun q hq => ?_)⟩
      cases hya : y.A with
      | none => rw [hya] at hq; simp [Value.ownBlock] at hq
      | some b =>
        rw [hya] at hq
        simp only [Value.ownBlock, Option.some.injEq] at hq
        subst hq
        exact hne b hya
  · left
    cases hxa : x.A with
    | none => rw [hxa] at hq; simp [Value.ownBlock] at hq
    | some a =>
      rw [hxa] at hq
      simp only [Value.ownBlock, Option.some.injEq] at hq
      exact ⟨x, List.mem_of_getElem? hx, a, hxa, hq⟩
theorem Marks.litB_of {l l' : List TkV} {k q : Nat} (h : Marks l l' k) (hq : LitB l' q) : LitB l q := by
  obtain ⟨y, hy, a, ha, rfl⟩ := hq
  obtain ⟨j, hj⟩ := List.getElem?_of_mem hy
  exact h.litB hj ha
theorem Marks.of_lit {l l' : List TkV} {k q : Nat} (h : Marks l l' k) (hq : LitB l q) : LitB l' q := by
  obtain ⟨x, hx, a, ha, rfl⟩ := hq
  obtain ⟨j, hj⟩ := List.getElem?_of_mem hx
  obtain ⟨y, h1, h2, _⟩ := h.2 j x hj
  exact ⟨y, List.mem_of_getElem? h1, a, h2.trans ha, rfl⟩

theorem own_addr {W : World} {B n c : Nat} {A : Option Addr} {e : TypeId} {xs : List Value} (h : W.ownsRow B e 1 (.slice A n c) n xs) : ∀ a : Addr, A = some a → a = ⟨a.block, 0, none⟩ := by
  intro a ha
  rcases h.2 with ⟨hv, _⟩ | ⟨g', cap, cur, hv, _⟩
  · injection hv with h1; rw [h1] at ha; cases ha
  · injection hv with h1; rw [h1] at ha; injection ha with ha; subst ha; rfl
theorem rd_lit_pre {W : World} {B n : Nat} {v : Value} {A : Option Addr} {lit rest : List Nat} (h : W.ownsRow B 5 1 v n (b8 (lit ++ rest))) {a : Addr} (hA : A = some a) (ha : a = ⟨a.block, 0, none⟩) (hv : v.ownBlock = some a.block) : Rd W A (b8 lit) := by
  obtain ⟨A', c', rfl, _⟩ := own_shape h
  cases A' with
  | none => simp [Value.ownBlock] at hv
  | some b =>
    have hb := own_addr h b rfl
    simp only [Value.ownBlock, Option.some.injEq] at hv
    rw [hv, ← ha] at hb
    subst hb hA
    have h2 := (rd_own h).take_ lit.length
    rw [b8_append, List.take_left' (b8_length lit)] at h2
    exact h2

set_option maxHeartbeats 4000000 in
set_option maxRecDepth 100000 in
theorem apart_is (A : Option Addr) (N c B : Nat) (l : List TkV) (w : World) (h : Ts w B (.slice A N c) N l) (hB : B ≤ w.heap.size) (hl : N ≤ 4000000000000) :
    Calls Try.prog 30 #[.slice A N c] w fun e w' => e = .returned (.bool true) ∧ KeptS w w' (LitB l) := by
  have HT0 := Lib.hid h
  have HL := Lib.hid h.len
  clear h
  go_enter Try.func30, Try.ntmps30
  go_wp2
  go_loopw [3, 4] (fun i j2 wr => ∃ (k : Nat) (l' : List TkV), k ≤ N ∧ i = .int .i64 k ∧ Hid (Ts wr B (.slice A N c) N l') ∧ Hid (Marks l l' k) ∧ Hid (KeptS w wr (LitB l))) (fun i _ _ => N - (intOf i).toNat)
  case atStart => exact ⟨0, l, Nat.zero_le _, rfl, HT0, Lib.hid (Marks.zero l), Lib.hid (KeptS.refl _ _)⟩
  case round =>
    obtain ⟨k, l', hk, rfl, HT, HM, HK⟩ := hrel
    clear HT0
    by_cases hlt : k < N
    · obtain ⟨x, hx⟩ : ∃ x, l'[k]? = some x := ⟨_, List.getElem?_eq_getElem (by rw [HT.out.len]; exact hlt)⟩
      obtain ⟨xA, xc, lit, xd, xl⟩ := x
      have hlit : lit.length ≤ 140737488351232 := (HT.out.pl _ (List.mem_of_getElem? hx)).2.1
      have HX := Lib.hid hx
      have HLB : Hid (∀ a : Addr, xA = some a → LitB l a.block) := Lib.hid (fun a ha => HM.out.litB hx ha)
      clear hx
      obtain ⟨wo, rfl⟩ : ∃ wo : World, wo = wr := ⟨_, rfl⟩
      go_wp2
      go_loopw [4] (fun j wi => ∃ (p : Nat) (l2 : List TkV), p ≤ lit.length ∧ j = .int .i64 p ∧ Hid (Ts wi B (.slice A N c) N l2) ∧ Hid (l2[k]? = some ⟨xA, xc, List.replicate p (k % 100) ++ lit.drop p, xd, xl⟩) ∧ Hid (∀ j, j ≠ k → l2[j]? = l'[j]?) ∧ Hid (KeptS w wi (LitB l))) (fun j _ => lit.length - (intOf j).toNat)
      case atStart => exact ⟨0, l', Nat.zero_le _, rfl, HT, Lib.hid (by simpa using HX.out), Lib.hid (fun _ _ => rfl), HK⟩
      case round =>
        clear HT HK
        obtain ⟨p, l2, hp, rfl, HT2, HX2, HO2, HK2⟩ := hrel
        obtain ⟨g, off, rfl, hg, hc0, hc1, hc2⟩ := HT2.out.rd.tok HX2.out
        simp only [List.length_append, List.length_replicate, List.length_drop] at hc0
        rw [show p + (lit.length - p) = lit.length by omega] at hc0
        have i0 : (0 : Int) ≤ (k : Int) := by omega
        have i1 : (k : Int) < (N : Int) := by omega
        by_cases hpl : p < lit.length
        · have ho := HT2.out.lit _ (List.mem_of_getElem? HX2.out)
          have hlen : (List.replicate p (k % 100) ++ lit.drop p).length = lit.length := by simp; omega
          obtain ⟨gx, ox, e, hgx, hcx⟩ := (rd_own ho).at_ (rep_get (k % 100) p lit hpl)
          simp only at e
          subst e
          have hox : ox = 0 := own_at0 ho
          subst hox
          have hf := World.ownsRow.frozenAt ho p
          rw [Nat.zero_add] at hcx
          have hm1 : (0 : Int) ≤ (k : Int) % 100 := by omega
          have hm2 : (k : Int) % 100 ≤ 99 := by omega
          have HS := Lib.hid (HT2.out.store HX2.out (g := gx) rfl (k := p) (z := k % 100) (by omega) (zi := (k : Int) % 100) (by omega))
          have HG := Lib.hid (HK2.out.trans (KeptS.of_grown (S := fun q => some gx = some q) (World.ownsRow.stored ho p (.int .u8 ((k : Int) % 100))).2 (fun q hq => hq)) (fun q hq => by injection hq with hq; subst hq; exact .inl (HLB.out _ rfl)))
          have HY : Hid ((l2.set k ⟨some ⟨gx, 0, none⟩, xc, (List.replicate p (k % 100) ++ lit.drop p).set p (k % 100), xd, xl⟩)[k]? = some ⟨some ⟨gx, 0, none⟩, xc, List.replicate (p + 1) (k % 100) ++ lit.drop (p + 1), xd, xl⟩) := Lib.hid (by
            rw [List.getElem?_set_self (List.getElem?_eq_some_iff.1 HX2.out).1, rep_lay (k % 100) p lit hpl])
          have HZ : Hid (∀ j, j ≠ k → (l2.set k ⟨some ⟨gx, 0, none⟩, xc, (List.replicate p (k % 100) ++ lit.drop p).set p (k % 100), xd, xl⟩)[j]? = l'[j]?) := Lib.hid (fun j hj => by
            rw [List.getElem?_set_ne (fun e => hj e.symm)]; exact HO2.out j hj)
          obtain ⟨y, hy⟩ : ∃ y, y = lit[p] := ⟨_, rfl⟩
          rw [← hy] at hcx
          simp only at HS
          clear hy ho HT2 HK2 HX2 hlen HO2
          go_wp2
          go_roundw
          case rel => exact ⟨p + 1, _, by omega, by go_num, HS, HY, HZ, HG⟩
          case measure => simp [intOf]; omega
        · have hpe : p = lit.length := by omega
          have HN : Hid (Marks l l2 (k + 1)) := Lib.hid (HM.out.next HX.out (by have h := HX2.out; rw [hpe, List.drop_length, List.append_nil] at h; exact h) HO2.out)
          subst hpe
          go_wp2
          go_roundw
          case rel => exact ⟨k + 1, l2, by omega, by go_num, HT2, HN, HK2⟩
          case measure => simp [intOf]; omega
    · have hke : k = N := by omega
      subst hke
      have HG0 := Lib.hid (Gr.start HT.out (KeptS.mono HK.out (fun q hq => HM.out.of_lit hq)))
      obtain ⟨wo, rfl⟩ : ∃ wo : World, wo = wr := ⟨_, rfl⟩
      clear HK
      go_wp2
      go_loopw [5, 6, 7] (fun i u6 u7 wr => ∃ (k2 : Nat), k2 ≤ k ∧ i = .int .i64 k2 ∧ Hid (Gr w wr B A k c l' k2)) (fun i _ _ _ => k - (intOf i).toNat)
      case atStart => exact ⟨0, Nat.zero_le _, rfl, HG0⟩
      case round =>
        obtain ⟨k2, hk2, rfl, HG⟩ := hrel
        clear HG0
        by_cases hlt2 : k2 < k
        · obtain ⟨x, hx⟩ : ∃ x, l'[k2]? = some x := ⟨_, List.getElem?_eq_getElem (by rw [HT.out.len]; exact hlt2)⟩
          have HO : Hid (OwnTk wr B x) := Lib.hid ((HG.out.lit k2 x hx).2 (Nat.le_refl _))
          have HR : Hid (Rd wr x.A (b8 x.lit)) := Lib.hid (HG.out.lit k2 x hx).1
          have hlit : x.lit.length ≤ 140737488351232 := (HT.out.pl _ (List.mem_of_getElem? hx)).2.1
          have hBs : B ≤ wr.heap.size := Nat.le_trans hB HG.out.kept.size
          obtain ⟨g, off, rfl, hg, hc0, hc1, hc2⟩ := (rd_own HG.out.row).tok hx
          have HX := Lib.hid hx
          clear hx
          obtain ⟨xA, xc, lit, xd, xl⟩ := x
          simp only at hc0 hc1 hc2 hlit HR
          have HA0 : Hid (∀ a : Addr, xA = some a → a = ⟨a.block, 0, none⟩) := Lib.hid (own_addr HO.out)
          have i0 : (0 : Int) ≤ (k2 : Int) := by omega
          have i1 : (k2 : Int) < (k : Int) := by omega
          have hm1 : (0 : Int) ≤ 150 + (k2 : Int) % 50 := by omega
          have hm2 : 150 + (k2 : Int) % 50 ≤ 199 := by omega
          obtain ⟨wq, rfl⟩ : ∃ wq : World, wq = wr := ⟨_, rfl⟩
          go_wp2
          clear hc0 hc1 hc2
          go_loopw [6, 7] (fun u j wi => ∃ (p : Nat) (zs : List Nat), p ≤ 64 ∧ j = .int .i64 p ∧ Hid (wi.ownsRow B 5 1 u (lit.length + p) (b8 (lit ++ zs))) ∧ Hid (Rd wi xA (b8 lit)) ∧ Hid (KeptS wq wi (fun q => (Value.slice xA lit.length xc).ownBlock = some q)) ∧ Hid (∀ q, u.ownBlock = some q → (Value.slice xA lit.length xc).ownBlock = some q ∨ wq.heap.size ≤ q)) (fun _ j _ => 64 - (intOf j).toNat)
          case atStart => exact ⟨0, [], by omega, rfl, Lib.hid (by have h := HO.out; unfold OwnTk at h; simpa using h), HR, Lib.hid (KeptS.refl _ _), Lib.hid (fun q hq => .inl hq)⟩
          case round =>
            obtain ⟨p, zs, hp, rfl, HO2, HR2, HK2, HN2⟩ := hrel
            clear HO HR
            have hsz := HK2.out.size
            by_cases hpl : p < 64
            · have hz : (150 + (k2 : Int) % 50) = ((150 + k2 % 50 : Nat) : Int) := by omega
              have HZ := Lib.hid hz
              clear hz
              go_wp2_with (at_builtin; go_loud ((refine push8K wr rfl (.tmp 51) (.tmp 56) (by rfl) B u6 (lit.length + p) (lit ++ zs) (by rfl) HO2.out _ (150 + k2 % 50) HZ.out (by rfl) (by omega) (by omega) ?_); intro v' w1 hown1 hn1; have HO3 := Lib.hid hown1; have HW3 := Lib.hid hn1; clear hown1 hn1))
              have HR3 : Hid (Rd w1 xA (b8 lit)) := Lib.hid (by
                rcases HW3.out with ⟨e, hg'⟩ | ⟨q, e, _, hb⟩
                · cases hxa : xA with
                  | none =>
                    have hr := HR2.out
                    rw [hxa] at hr
                    exact hr.grown hg' (fun a ha => by cases ha)
                  | some a =>
                    by_cases hq : u6.ownBlock = some a.block
                    · have h9 := HO3.out
                      rw [List.append_assoc] at h9
                      exact rd_lit_pre h9 rfl (HA0.out a hxa) (e.trans hq)
                    · have hr := HR2.out
                      rw [hxa] at hr
                      exact hr.grown hg' (fun b hb h => by injection hb with hb; subst hb; exact hq h.symm)
                · exact HR2.out.below hb)
              have HK3 : Hid (KeptS wq w1 (fun q => (Value.slice xA lit.length xc).ownBlock = some q)) := Lib.hid (by
                rcases HW3.out with ⟨e, hg'⟩ | ⟨q, e, _, hb⟩
                · exact HK2.out.trans (KeptS.of_grown (S := fun q => u6.ownBlock = some q) hg' (fun q hq => hq)) (fun q hq => HN2.out q hq)
                · exact HK2.out.trans (KeptS.of_below hb (fun _ => False)) (fun _ h => h.elim))
              have HN3 : Hid (∀ q, v'.ownBlock = some q → (Value.slice xA lit.length xc).ownBlock = some q ∨ wq.heap.size ≤ q) := Lib.hid (fun q hq => by
                rcases HW3.out with ⟨e, _⟩ | ⟨k, e, hk, _⟩
                · exact HN2.out q (e.symm.trans hq)
                · rw [e] at hq; injection hq with hq; right; omega)
              clear HR2 HK2 HN2 HW3 HO2
              go_roundw
              case rel => exact ⟨p + 1, zs ++ [150 + k2 % 50], by omega, by go_num, Lib.hid (by have h := HO3.out; rw [List.append_assoc] at h; exact h), HR3, HK3, HN3⟩
              case measure => simp [intOf]; omega
            · have HG3 := Lib.hid (HG.out.next HT.out HX.out HR2.out HK2.out)
              clear HO2 HR2 HK2 HN2 HG
              go_wp2
              go_roundw
              case rel => exact ⟨k2 + 1, by omega, by go_num, HG3⟩
              case measure => simp [intOf]; omega
        · have HGR := Lib.hid HG.out.row
          have HGL := Lib.hid HG.out.lit
          have HKK := Lib.hid (KeptS.mono HG.out.kept (fun q hq => HM.out.litB_of hq))
          obtain ⟨wq, rfl⟩ : ∃ wq : World, wq = wr := ⟨_, rfl⟩
          clear HG
          go_wp2
          go_loopw [8, 9] (fun i u9 wi => ∃ (k3 : Nat), k3 ≤ k ∧ i = .int .i64 k3 ∧ wi = wq) (fun i _ _ => k - (intOf i).toNat)
          case atStart => exact ⟨0, Nat.zero_le _, rfl, rfl⟩
          case round =>
            obtain ⟨k3, hk3, rfl, hw⟩ := hrel
            obtain rfl : wr = wq := hw
            by_cases hlt3 : k3 < k
            · obtain ⟨x, hx⟩ : ∃ x, l'[k3]? = some x := ⟨_, List.getElem?_eq_getElem (by rw [HT.out.len]; exact hlt3)⟩
              have HR := Lib.hid (HGL.out k3 x hx).1
              have hlit : x.lit.length ≤ 140737488351232 := (HT.out.pl _ (List.mem_of_getElem? hx)).2.1
              obtain ⟨y, hy1, hy2, hy3⟩ := HM.out.back hx
              have hy := hy3 hlt3
              have hyl := congrArg List.length hy
              rw [List.length_replicate] at hyl
              have HY : Hid (x.lit = List.replicate x.lit.length (k3 % 100)) := Lib.hid (by rw [hyl]; exact hy)
              clear hy hyl hy1 hy2 hy3
              obtain ⟨g, off, rfl, hg, hc0, hc1, hc2⟩ := (rd_own HGR.out).tok hx
              clear hx
              obtain ⟨xA, xc, lit, xd, xl⟩ := x
              simp only at hc0 hc1 hc2 hlit HR HY
              have i0 : (0 : Int) ≤ (k3 : Int) := by omega
              have i1 : (k3 : Int) < (k : Int) := by omega
              have hm1 : (0 : Int) ≤ (k3 : Int) % 100 := by omega
              have hm2 : (k3 : Int) % 100 ≤ 99 := by omega
              go_wp2
              go_loopw [9] (fun j wi => ∃ (p : Nat), p ≤ lit.length ∧ j = .int .i64 p ∧ wi = wr) (fun j _ => lit.length - (intOf j).toNat)
              case atStart => exact ⟨0, Nat.zero_le _, rfl, rfl⟩
              case round =>
                obtain ⟨p, hp, rfl, hw⟩ := hrel
                subst hw
                by_cases hpl : p < lit.length
                · obtain ⟨gx, ox, rfl, hgx, hcx⟩ := HR.out.at_ (show lit[p]? = some (k3 % 100) by rw [HY.out, List.getElem?_replicate, if_pos hpl])
                  rw [show ((k3 % 100 : Nat) : Int) = (k3 : Int) % 100 by omega] at hcx
                  go_wp2
                  go_roundw
                  case rel => exact ⟨p + 1, by omega, by go_num, by first | trivial | rfl⟩
                  case measure => simp [intOf]; omega
                · go_wp2
                  go_roundw
                  case rel => exact ⟨k3 + 1, by omega, by go_num, by first | trivial | rfl⟩
                  case measure => simp [intOf]; omega
            · go_wp2
              go_ret
              exact ⟨rfl, HKK.out⟩
end Go.Proofs.Ytmdpncjffikmiaa
