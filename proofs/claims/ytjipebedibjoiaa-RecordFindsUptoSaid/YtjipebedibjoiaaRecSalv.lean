/- Salvage: the program (printed by gen_rcsalv.py). -/
import Derived.Test.YtjipebedibjoiaaRecFd
namespace Go.Proofs.Ytjipebedibjoiaa
open Go Go.RowKit
set_option linter.unusedVariables false
set_option linter.unusedSimpArgs false

def SalvPost (w : World) (l : List (Nat × Rc)) (e : Ending) (w' : World) : Prop :=
  ∃ A c, e = .returned (.slice A l.length c) ∧ w'.ownsRow w.heap.size 48 8 (.slice A l.length c) l.length (fdCells l) ∧ Below w.heap.size w w'
theorem salvpost_mk {w W : World} {q acc : List (Nat × Rc)} {A : Option Addr} {c n : Nat} (hq : q = acc) (hn : n = acc.length) (ho : W.ownsRow w.heap.size 48 8 (.slice A n c) n (fdCells acc)) (hb : Below w.heap.size w W) : SalvPost w q (.returned (.slice A n c)) W := by
  subst hq hn
  exact ⟨A, c, rfl, ho, hb⟩
set_option maxHeartbeats 4000000 in
set_option maxRecDepth 100000 in
theorem salv_is (A : Option Addr) (n c : Nat) (b : List Nat) (w : World) (hr : Rd w A (b8 b)) (hn : b.length = n) (hnc : n ≤ c) (hby : By b) (hl : n ≤ 1000000000000) :
    Calls Try.prog 33 #[.slice A n c] w (SalvPost w (salvW b 0 [])) := by
  have HR := Lib.hid hr
  have HN := Lib.hid hn
  have PD := Lib.hid (fun g off p W (hA : A = some ⟨g, off, none⟩) (hp : p ≤ n) (hW : Below w.heap.size w W) => recdecode_is (some ⟨g, off + p, none⟩) (n - p) (c - p) (b.drop p) W (rd_rest (p := p) (hA ▸ hr.below hW)) (by rw [List.length_drop, hn]) (by omega) (hby.drop p) (by omega))
  unfold DecPost at PD
  have HC := Lib.hid (rdec_cases)
  obtain ⟨q, hq⟩ : ∃ q, q = salvW b 0 [] := ⟨_, rfl⟩
  rw [← hq]
  have HQ := Lib.hid hq
  clear hr hn hby hq
  go_enter Try.func33, Try.ntmps33
  go_wp2
  go_loopw [3, 4] (fun l i wr => ∃ (p : Nat) (acc : List (Nat × Rc)), p ≤ n ∧ i = .int .i64 p ∧ wr.ownsRow w.heap.size 48 8 l acc.length (fdCells acc) ∧ Below w.heap.size w wr ∧ Hid (q = salvW b p acc) ∧ acc.length ≤ p) (fun _ i _ => n - (intOf i).toNat)
  case atStart => exact ⟨0, [], Nat.zero_le _, rfl, World.ownsRow_nil _ _ _ _, Below.refl _ _, HQ, by simp⟩
  case round =>
    obtain ⟨p, acc, hp, rfl, hown, hbel, HS, hfew⟩ := hrel
    obtain ⟨A5, c5, rfl, hc5a, hc5b, hA5⟩ := own_shape hown
    have HO := Lib.hid hown
    have HB := Lib.hid hbel
    have hwz := hbel.size
    clear hown hbel hA5 HQ
    by_cases hlt : p < n
    · have hpb : p < b.length := by rw [HN.out]; exact hlt
      obtain ⟨g, off, hA, hg, _⟩ := HR.out.some_ (by omega)
      have P1 := Lib.hid (PD.out g off p wr hA (by omega) HB.out)
      subst hA
      obtain ⟨⟨⟨k, o, t, pp, s, key, vl⟩, n1, z⟩, hqd⟩ : ∃ r, r = rdec (b.drop p) := ⟨_, rfl⟩
      have hcs := HC.out (b.drop p)
      rw [← hqd] at P1 hcs
      have HD := Lib.hid hqd.symm
      unfold Rc.v at P1
      simp only at P1
      have i0 : (0 : Int) ≤ (p : Int) := by omega
      have i1 : (p : Int) ≤ (n : Int) := by omega
      have i2 : ¬ c = p := by omega
      obtain ⟨N, hN⟩ : ∃ N, N = acc.length := ⟨_, rfl⟩
      rw [← hN] at HO hfew ⊢
      have HNN := Lib.hid hN
      clear hqd hN
      by_cases hz : z = 0
      · subst hz
        obtain ⟨x', n', e, hm, h14, h1124, hnb, -⟩ | e | e := hcs
        rotate_left
        · simp at e
        · simp at e
        obtain ⟨rfl, rfl, _⟩ := (by simpa using e : (⟨k, o, t, pp, s, key, vl⟩ : Rc) = x' ∧ n1 = n' ∧ True)
        have hn1 : p + n1 ≤ n := by rw [List.length_drop, HN.out] at hnb; omega
        have HST := Lib.hid (HS.out.trans (salv_yes hpb HD.out (by omega)))
        clear e hm hnb HS HD
        go_wp2_with fail
        refine P1.out.mono ?_
        rintro e w1 ⟨rfl, hb1⟩
        have HO1 := Lib.hid (own_below HO.out hb1)
        have HB1 := Lib.hid (HB.out.trans (hb1.mono hwz))
        have hs1 := hb1.size
        clear hb1 HO HB P1
        go_wp2_with (at_builtin; (refine pushF _ rfl (.tmp 24) (.tmp 28) rfl w.heap.size _ N (fdCells acc) rfl (HO1.out.alloc (rcObj ⟨k, o, t, pp, s, key, vl⟩)) p ⟨k, o, t, pp, s, key, vl⟩ _ (by simp) rfl (by omega) (by simp; omega) ?_); intro v2 w2 hown2 hg2 hn2; have HO2 := Lib.hid hown2; have HB2 := Lib.hid ((HB1.out.alloc HB1.out.size (rcObj ⟨k, o, t, pp, s, key, vl⟩)).trans (below_of_grown hg2 (by simp; omega) (fun q hq => (HO1.out.lt q hq).1))); clear hown2 hg2 hn2)
        go_roundw
        case rel => exact ⟨p + n1, acc ++ [(p, ⟨k, o, t, pp, s, key, vl⟩)], hn1, by go_num, by rw [fdCells_append, List.length_append, ← HNN.out]; simpa [fdCells] using HO2.out, HB2.out, HST, by rw [List.length_append, ← HNN.out]; simp; omega⟩
        case measure => simp [intOf]; omega
      · have HST := Lib.hid (HS.out.trans (salv_no hpb (by rw [HD.out]; exact hz)))
        have hz' : ((z : Int) == 0) = false := by rw [beq_eq_false_iff_ne]; omega
        have hz'' : ((z : Int) != 0) = true := by rw [bne_iff_ne]; omega
        clear HS HD hcs
        go_wp2_with fail
        refine P1.out.mono ?_
        rintro e w1 ⟨rfl, hb1⟩
        have HO1 := Lib.hid (own_below HO.out hb1)
        have HB1 := Lib.hid (HB.out.trans (hb1.mono hwz))
        have hs1 := hb1.size
        clear hb1 HO HB P1
        go_wp2_with fail
        go_roundw
        case rel => exact ⟨p + 1, acc, by omega, by go_num, by rw [← HNN.out]; exact HO1.out.alloc _, HB1.out.alloc HB1.out.size _, HST, by rw [← HNN.out]; omega⟩
        case measure => simp [intOf]; omega
    · have HEN := Lib.hid (HS.out.trans (salv_end (by rw [HN.out]; exact hlt)))
      clear HS PD HC
      go_wp2
      go_ret
      exact salvpost_mk HEN.out rfl HO.out HB.out
end Go.Proofs.Ytjipebedibjoiaa
