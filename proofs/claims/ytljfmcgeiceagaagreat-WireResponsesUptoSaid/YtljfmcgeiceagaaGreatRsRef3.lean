/- chronicleref16.EncodeResponse, CheckResponse. -/
import Derived.Test.YtljfmcgeiceagaaGreatRsRef2
namespace Go.Proofs.YtljfmcgeiceagaaGreat
open Go Go.RowKit
set_option linter.unusedVariables false
set_option linter.unusedSimpArgs false

theorem bdyp_len {x : Rp} (hm : MayP x) (hk : x.Nm) (hnl : x.recs.length ≤ 2000000000000) (htot : (x.recs.flatMap encs).length ≤ 140737488350000) : (bdyp x).length ≤ 140737488351000 := by
  have h1 := headp_len hk hm.hd.2.2.2
  have h2 := names_len x.names hm.names
  have h3 := hm.hd.2.2.2
  have h4 := Uv.uv_len_64 x.recs.length (by omega)
  unfold bdyp
  simp only [List.length_append]
  omega
set_option maxHeartbeats 4000000 in
set_option maxRecDepth 100000 in
theorem rencodep_is (x : Rp) (AN AL : Option Addr) (nn nr cn cl : Nat) (w : World) (hrn : Rd w AN (strs x.names)) (hnn : x.names.length = nn) (hrl : Rd w AL (rcCells x.recs)) (hnr : x.recs.length = nr) (hk : x.Nm) (hnl : nr ≤ 2000000000000) (hnl2 : nn ≤ 1000000000000000) (htot : (x.recs.flatMap encs).length ≤ 140737488350000) :
    Calls Tryz.prog 10 #[x.V (.slice AL nr cl) (.slice AN nn cn)] w (FramePost w (renp x)) := by
  have PF := Lib.hid (fun W (hb : Below w.heap.size w W) => formed_is x AN AL nn nr cn cl W (hrn.below hb) hnn (hrl.below hb) hnr hnl hnl2)
  have PB := Lib.hid (fun W (hb : Below w.heap.size w W) (hm : MayP x) =>
    (show Calls Tryz.prog 23 #[x.V (.slice AL nr cl) (.slice AN nn cn)] W fun e w' => ∃ A c, e = .returned (.slice A (bdyp x).length c) ∧ w'.ownsRow W.heap.size 5 1 (.slice A (bdyp x).length c) (bdyp x).length (b8 (bdyp x)) ∧ Below W.heap.size W w' from by
      obtain ⟨id, op, code, off, num, more, names, recs⟩ := x
      have hd := hm.hd
      unfold hdp at hd
      simp only at hd hrn hrl hnn hnr htot
      obtain ⟨m, rfl⟩ : ∃ m : Nat, op = (m : Int) := ⟨op.toNat, by omega⟩
      obtain ⟨q, rfl⟩ : ∃ q : Nat, code = (q : Int) := ⟨code.toNat, by omega⟩
      exact bodyr_is id m q off num more names recs AN AL nn nr cn cl W (hrn.below hb) hnn (hrl.below hb) hnr hk.id (by omega) (by omega) hk.off hk.num (by omega) hm.names hm.recs hnl htot))
  have HBL := Lib.hid (fun (hm : MayP x) => bdyp_len hm hk (by omega) htot)
  have HBY := Lib.hid (fun (hm : MayP x) => bdyp_by hm)
  have HNO := Lib.hid (fun (h : ¬ MayP x) => renp_no h)
  have HYES := Lib.hid (fun (h : MayP x) => renp_yes h)
  obtain ⟨Q, hQ⟩ : ∃ Q, Q = renp x := ⟨_, rfl⟩
  obtain ⟨B, hB⟩ : ∃ B, B = bdyp x := ⟨_, rfl⟩
  rw [← hQ] at HNO HYES ⊢
  rw [← hB] at PB HBL HBY HYES
  have hB0 := (Below.refl w.heap.size w).alloc (Nat.le_refl _) (.cells #[.int .u32 (x.id : Int), .int .i64 x.op, .int .i64 x.code, .int .i64 x.off, .int .i64 x.num, .bool x.more, .slice AL nr cl, .slice AN nn cn] 26)
  have hX0 : B8 _ w.heap.size (.int .u32 (x.id : Int)) (.int .i64 x.op) (.int .i64 x.code) (.int .i64 x.off) (.int .i64 x.num) (.bool x.more) (.slice AL nr cl) (.slice AN nn cn) := heap_alloc_new w _
  have HB0 := Lib.hid hB0
  have HX0 := Lib.hid hX0
  obtain ⟨MP, hMP⟩ : ∃ MP : Prop, MP = MayP x := ⟨_, rfl⟩
  unfold FormedPost at PF
  rw [← hMP] at PF PB HBL HBY HNO HYES
  obtain ⟨id, op, code, off, num, more, names, recs⟩ := x
  unfold Rp.V at PF PB ⊢
  unfold FramePost
  simp only at PF PB HB0 HX0 ⊢
  clear hrn hrl hnn hnr hk htot hQ hB hB0 hX0 hMP
  go_enter Tryz.func10, Tryz.ntmps10
  go_wp2_with fail
  refine (PF.out _ HB0.out).mono ?_
  rintro e w1 ⟨t, rfl, ht, hb1⟩
  have HT := Lib.hid ht
  have HX1 := Lib.hid (HX0.out.below hb1 HX0.out.lt)
  have HB1 := Lib.hid (HB0.out.trans (hb1.mono HB0.out.size))
  clear ht hb1 PF HX0 HB0
  obtain ⟨x0, x1, x2, x3, x4, x5, x6, x7⟩ := HX1.out.facts
  cases t with
  | false =>
    have hq : Hid (Q = ([], 162)) := Lib.hid (HNO.out (fun h => by have := HT.out.2 h; cases this))
    go_wp2_with fail
    go_ret2
    exact ⟨none, 0, by rw [hq.out]; rfl, by rw [hq.out]; exact World.ownsRow_nil _ _ _ _, HB1.out⟩
  | true =>
    have hm := HT.out.1 rfl
    have hq := Lib.hid (HYES.out hm)
    have hbl := HBL.out hm
    have HBYY := Lib.hid (HBY.out hm)
    have PBB := Lib.hid (PB.out _ HB1.out hm)
    obtain ⟨n, hn⟩ : ∃ n, B.length = n := ⟨_, rfl⟩
    have HNB := Lib.hid hn
    rw [hn] at PBB hbl
    clear hm HNO HYES HBL HBY PB HT hn
    go_wp2_with fail
    refine PBB.out.mono ?_
    rintro e w2 ⟨A, c, rfl, ho, hb2⟩
    have PFR := rframe_is A n c B w2 (rd_own ho) HNB.out HBYY.out (by omega)
    rw [← hq.out] at PFR
    have PR := Lib.hid PFR
    have HB2 := Lib.hid (HB1.out.trans (hb2.mono HB1.out.size))
    have hs : w.heap.size ≤ w2.heap.size := HB2.out.size
    clear PFR ho hb2 PBB x0 x1 x2 x3 x4 x5 x6 x7
    unfold FramePost at PR
    go_wp2_with fail
    refine PR.out.mono ?_
    rintro e w3 ⟨A3, c3, rfl, ho3, hb3⟩
    have HO3 := Lib.hid ho3
    have HB3 := Lib.hid (HB2.out.trans (hb3.mono HB2.out.size))
    clear ho3 hb3 PR
    go_wp2_with fail
    go_ret2
    exact ⟨A3, c3, rfl, own_lower HO3.out hs, HB3.out⟩
set_option maxRecDepth 100000 in
theorem rcheckp_is (x : Rp) (AN AL : Option Addr) (nn nr cn cl : Nat) (w : World) (hrn : Rd w AN (strs x.names)) (hnn : x.names.length = nn) (hrl : Rd w AL (rcCells x.recs)) (hnr : x.recs.length = nr) (hk : x.Nm) (hnl : nr ≤ 2000000000000) (hnl2 : nn ≤ 1000000000000000) (htot : (x.recs.flatMap encs).length ≤ 140737488350000) :
    Calls Tryz.prog 16 #[x.V (.slice AL nr cl) (.slice AN nn cn)] w fun e w' => e = .returned (.int .i64 (renp x).2) ∧ Below w.heap.size w w' := by
  have PW := Lib.hid (fun W (hb : Below w.heap.size w W) => rencodep_is x AN AL nn nr cn cl W (hrn.below hb) hnn (hrl.below hb) hnr hk hnl hnl2 htot)
  obtain ⟨Q, hQ⟩ : ∃ Q, Q = renp x := ⟨_, rfl⟩
  rw [← hQ] at PW ⊢
  unfold FramePost at PW
  unfold Rp.V at PW ⊢
  clear hrn hnn hrl hnr hk hnl hnl2 htot hQ
  go_enter Tryz.func16, Tryz.ntmps16
  go_wp2_with fail
  refine (PW.out _ ((Below.refl w.heap.size w).alloc (Nat.le_refl _) _)).mono ?_
  rintro e w2 ⟨A2, c2, rfl, ho2, hb2⟩
  have HB2 := Lib.hid (((Below.refl w.heap.size w).alloc (Nat.le_refl _) _).trans (hb2.mono (by simp)))
  clear ho2 hb2
  go_wp2_with fail
  go_ret
  exact ⟨rfl, HB2.out⟩
end Go.Proofs.YtljfmcgeiceagaaGreat
