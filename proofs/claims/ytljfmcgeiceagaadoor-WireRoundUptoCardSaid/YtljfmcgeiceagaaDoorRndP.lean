/- There and back: the plain words. -/
import Derived.Test.YtljfmcgeiceagaaDoorRsDP2
import Derived.Test.YtljfmcgeiceagaaDoorQ1
import Derived.Test.YtljfmcgeiceagaaDoorWalkWireHeads
namespace Go.Proofs.YtljfmcgeiceagaaDoor
open Go Go.RowKit
set_option linter.unusedVariables false
set_option linter.unusedSimpArgs false

theorem hd_more {body m : List Nat} (h1 : 0 < body.length) (h2 : body.length ≤ 4087) : hd (wrap 197 body ++ m) = (((wrap 197 body).length : Int), 0) := by
  have hl := wrap_length 197 body
  have e1 : ((wrap 197 body ++ m).drop 1).take 4 = ((wrap 197 body).drop 1).take 4 := by
    rw [List.drop_append_of_le_length (by omega), List.take_append_of_le_length (by rw [List.length_drop]; omega)]
  have e2 : (wrap 197 body ++ m).headD 0 = 197 := by
    rw [headD_append (by omega)]
    exact (wrap_parts 197 body).1
  have hv : val (((wrap 197 body).drop 1).take 4) = body.length := by rw [(wrap_parts 197 body).2.1, val_fx (by omega)]
  unfold hd
  rw [e1, e2, List.length_append, hv, hl]
  rw [if_neg (by omega), if_neg (by omega), if_neg (by omega), if_neg (by omega)]
  congr 1
  omega
theorem take1_head (a : Nat) (r : List Nat) : (⟨a :: r, 0, 0, 0⟩ : Rs).take 1 = ([a], ⟨a :: r, ([a] : List Nat).length, 0, 0⟩) := take_fw (bs := a :: r) (pre := []) (b := [a]) (post := r) (n := 1) rfl rfl
/-- A request's frame is no response's. -/
theorem decp_req {x : Rq} (hm : MayQ x) (hk : x.Ok) : decp (wrap 197 (bdyq x)) = (rp0, 162) := by
  obtain ⟨l1, l2⟩ := bdyq_len hm hk
  have hb := bd_wrap (bdyq_by hm) (by omega) (by omega)
  obtain ⟨r, hr⟩ : ∃ r, bdyq x = 81 :: r := ⟨_, rfl⟩
  unfold decp
  rw [hb, if_neg (by simp), hr]
  have hf : (prs0 (81 :: r)).1.f = 81 := by
    unfold prs0
    simp only
    rw [take1_head]
    rfl
  have : prs (81 :: r) = none := by
    unfold prs prs1
    rw [if_pos (.inr (.inl (by rw [hf]; omega)))]
  rw [this]
  rfl
/-- A response's frame is no request's. -/
theorem decq_resp {x : Rp} (hm : MayP x) (h1 : 0 < (bdyp x).length) (h2 : (bdyp x).length ≤ 4087) : decq (wrap 197 (bdyp x)) = (rq0, 161) := by
  have hb := bd_wrap (bdyp_by hm) h1 h2
  obtain ⟨r, hr⟩ : ∃ r, bdyp x = 82 :: r := ⟨_, rfl⟩
  unfold decq
  rw [hb, if_neg (by simp), hr]
  have : prq (82 :: r) = none := by
    unfold prq prq1
    rw [take1_head]
    rw [if_pos (.inl (by simp))]
  rw [this]
  rfl
theorem decq_back {b : List Nat} {x : Rq} (hb : By b) (hl : b.length ≤ 140737488351232) (h : decq b = (x, 0)) : renq x = (b, 0) ∧ x.Ok := by
  unfold decq at h
  split at h
  · injection h with _ e; cases e
  · rename_i h0
    obtain ⟨hw, h9, hd⟩ := bd_wrapped hb (by simpa using h0)
    have hby : By (bd b).1 := by rw [hd]; exact by_drop hb 9
    have hbl : (bd b).1.length ≤ 140737488351232 := by rw [hd, List.length_drop]; omega
    cases hp : prq (bd b).1 with
    | none => rw [hp] at h; simp [outq] at h
    | some y =>
      rw [hp] at h
      simp only [outq, Prod.mk.injEq, and_true] at h
      subst h
      obtain ⟨hm, he, hk⟩ := prq_back hby hbl hp
      refine ⟨?_, hk⟩
      unfold renq
      rw [if_pos (okq_may.2 hm), he, ← hw]
end Go.Proofs.YtljfmcgeiceagaaDoor
