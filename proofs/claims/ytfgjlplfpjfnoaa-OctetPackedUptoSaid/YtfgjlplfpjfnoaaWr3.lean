/- Writers: U64, Text, Bytes, Len. -/
import Derived.Test.YtfgjlplfpjfnoaaWr2
namespace Go.Proofs.Ytfgjlplfpjfnoaa
open Go Go.RowKit
set_option linter.unusedVariables false


theorem u64_w (base g : Nat) (v : Value) (xs : List Nat) (x : Nat) (w : World) (h : Wr base w 50 g v xs) (hx : x < 18446744073709551616) (hl : xs.length + 8 ≤ 140737488355328) (hb : base ≤ w.heap.size) :
    Calls Try.prog 70 #[.pointer (some ⟨g, 0, none⟩), .int .u64 (x : Int)] w (Wrote base w 50 g v (xs ++ fx x 8)) := by
  have P1 := Lib.hid (u32_w base g v xs (x / 4294967296) w h (by omega) (by omega) hb)
  have P2 := Lib.hid (fun v2 W (h2 : Wr base W 50 g v2 (xs ++ fx (x / 4294967296) 4)) (h3 : base ≤ W.heap.size) => u32_w base g v2 _ (x % 4294967296) W h2 (by omega) (by rw [List.length_append, fx_length]; omega) h3)
  rw [show ((x / 4294967296 : Nat) : Int) = (x : Int) / 4294967296 from by omega] at P1
  simp only [show ((x % 4294967296 : Nat) : Int) = (x : Int) % 4294967296 from by omega] at P2
  have hspec : Hid (xs ++ fx (x / 4294967296) 4 ++ fx (x % 4294967296) 4 = xs ++ fx x 8) := by
    show _ = _
    rw [fx_mod, fx_eight, List.append_assoc]
  clear h
  go_enter Try.func70, Try.ntmps70
  go_wp2_with fail
  refine P1.out.mono ?_
  intro e w2 hw2
  obtain ⟨v2, rfl, g1, g2, g3⟩ := hw2
  have G1 := Lib.hid g1
  have G2 := Lib.hid g2
  have G3 := Lib.hid g3
  clear g1 g2 g3
  go_wp2_with fail
  refine (P2.out v2 w2 G1.out (Nat.le_trans hb G2.out.size)).mono ?_
  intro e w3 hw3
  obtain ⟨v', rfl, h1, h2, h3⟩ := Wrote.chain G2.out G3.out hw3
  have H1 := Lib.hid h1
  have H2 := Lib.hid h2
  have H3 := Lib.hid h3
  clear h1 h2 h3 hw3
  go_wp2
  go_end0
  exact ⟨v', rfl, (by rw [← hspec.out]; exact H1.out), H2.out, H3.out⟩


set_option maxHeartbeats 400000 in
set_option maxRecDepth 100000 in
theorem text_w (base g : Nat) (v : Value) (xs : List Nat) (s : ByteArray) (w : World) (h : Wr base w 50 g v xs) (hl : xs.length + 10 + s.size ≤ 140737488355328) (hb : base ≤ w.heap.size) :
    Calls Try.prog 72 #[.pointer (some ⟨g, 0, none⟩), .string s] w (Wrote base w 50 g v (xs ++ Uv.uv s.size ++ sb s)) := by
  have hlen := Uv.uv_len_64 s.size (by omega)
  have P1 := Lib.hid (uvarint_w base g v xs s.size w h (by omega) (by omega) hb)
  have P2 := Lib.hid (fun v2 W A c (h2 : Wr base W 50 g v2 (xs ++ Uv.uv s.size)) (hr : Rd W A (b8 (sb s))) (h3 : base ≤ W.heap.size) => raw_is base g v2 _ A s.size c (sb s) W h2 hr (sb_length s) (by rw [List.length_append]; omega) h3)
  have hs : s.size ≤ 140737488355328 := by omega
  clear h
  go_enter Try.func72, Try.ntmps72
  go_wp2_with fail
  refine P1.out.mono ?_
  intro e w2 hw2
  obtain ⟨v2, rfl, g1, g2, g3⟩ := hw2
  have G1 := Lib.hid g1
  have G2 := Lib.hid g2
  have G3 := Lib.hid g3
  clear g1 g2 g3
  go_wp2_with (refine wpList_bytes _ rfl (.tmp 10) 9 22 5 rfl Try.underlying9 Try.underlying22 Try.underlying5 s rfl ?_; intro c2 w2b zs hrow hcm hbel hzl; have HR := Lib.hid ((hrow.rd).take_ s.size); have HBL := Lib.hid hbel; clear hrow hcm hbel hzl)
  refine (P2.out v2 w2b _ _ (G1.out.below HBL.out) (by have := HR.out; rwa [List.take_left' (by rw [b8_length, sb_length])] at this) (Nat.le_trans hb (Nat.le_trans G2.out.size HBL.out.size))).mono ?_
  intro e w3 hw3
  obtain ⟨v', rfl, h1, h2, h3⟩ := Wrote.chain G2.out G3.out (hw3.pre HBL.out)
  have H1 := Lib.hid h1
  have H2 := Lib.hid h2
  have H3 := Lib.hid h3
  clear h1 h2 h3 hw3
  go_wp2
  go_end0
  exact ⟨v', rfl, H1.out, H2.out, H3.out⟩


theorem bytes_w (base g : Nat) (v : Value) (xs : List Nat) (w : World) (h : Wr base w 50 g v xs) (hl : xs.length ≤ 140737488351232) :
    Calls Try.prog 40 #[.pointer (some ⟨g, 0, none⟩)] w fun e w' => Got8 w w' e xs := by
  have hc := cell_of_one h.cell
  have hglt := h.lt
  obtain ⟨A, c, rfl, hcn, _, _⟩ := own_shape h.own
  have HR := Lib.hid (rd_own h.own)
  clear h
  go_enter Try.func40, Try.ntmps40
  go_wp2_with (at_builtin; (refine app8 w rfl (.const (.slice none 0 0)) (.tmp 8) rfl w.heap.size _ 0 [] rfl (World.ownsRow_nil _ _ _ _) A xs.length c xs rfl rfl HR.out (by omega) (Nat.le_refl _) ?_); intro v1 w1 ho hg _; have HO := Lib.hid ho; have HG := Lib.hid hg; clear ho hg)
  go_ret
  exact got8_mk HO.out (by omega) (by simp) (below_of_grown HG.out (Nat.le_refl _) (fun k hk => by cases hk))


set_option maxHeartbeats 400000 in
set_option maxRecDepth 100000 in
theorem rtext_w (base g : Nat) (v : Value) (xs : List Nat) (s : ByteArray) (w : World) (h : Wr base w 58 g v xs) (hl : xs.length + 10 + s.size ≤ 140737488355328) (hb : base ≤ w.heap.size) :
    Calls Try.prog 73 #[.pointer (some ⟨g, 0, none⟩), .string s] w (Wrote base w 58 g v (xs ++ Uv.uv s.size ++ sb s)) := by
  have hlen := Uv.uv_len_64 s.size (by omega)
  have P1 := Lib.hid (ruvarint_w base g v xs s.size w h (by omega) (by omega) hb)
  have P2 := Lib.hid (fun v2 W A c (h2 : Wr base W 58 g v2 (xs ++ Uv.uv s.size)) (hr : Rd W A (b8 (sb s))) (h3 : base ≤ W.heap.size) => rraw_is base g v2 _ A s.size c (sb s) W h2 hr (sb_length s) (by rw [List.length_append]; omega) h3)
  have hs : s.size ≤ 140737488355328 := by omega
  have PU := Lib.hid (ruvarint_any s.size w (by omega))
  have PR := Lib.hid (fun W A c (h1 : Wr base W 58 g v xs) (h2 : Rd W A (b8 (Uv.uv s.size))) (h3 : base ≤ W.heap.size) => rraw_is base g v xs A (Uv.uv s.size).length c (Uv.uv s.size) W h1 h2 rfl (by omega) h3)
  have HW := Lib.hid h
  clear h P1
  go_enter Try.func73, Try.ntmps73
  go_wp2_with fail
  refine PU.out.mono ?_
  rintro e w1 ⟨A, c, rfl, ho, hb1⟩
  have HO := Lib.hid ho
  have HB1 := Lib.hid hb1
  clear ho hb1
  go_wp2_with fail
  refine (PR.out w1 A c (HW.out.below HB1.out) (rd_own HO.out) (Nat.le_trans hb HB1.out.size)).mono ?_
  intro e w2 hw2
  obtain ⟨v2, rfl, g1, g2, g3⟩ := hw2.pre HB1.out
  have G1 := Lib.hid g1
  have G2 := Lib.hid g2
  have G3 := Lib.hid g3
  clear g1 g2 g3 hw2
  go_wp2_with (refine wpList_bytes _ rfl (.tmp 11) 9 22 5 rfl Try.underlying9 Try.underlying22 Try.underlying5 s rfl ?_; intro c2 w2b zs hrow hcm hbel hzl; have HR := Lib.hid ((hrow.rd).take_ s.size); have HBL := Lib.hid hbel; clear hrow hcm hbel hzl)
  refine (P2.out v2 w2b _ _ (G1.out.below HBL.out) (by have := HR.out; rwa [List.take_left' (by rw [b8_length, sb_length])] at this) (Nat.le_trans hb (Nat.le_trans G2.out.size HBL.out.size))).mono ?_
  intro e w3 hw3
  obtain ⟨v', rfl, h1, h2, h3⟩ := Wrote.chain G2.out G3.out (hw3.pre HBL.out)
  have H1 := Lib.hid h1
  have H2 := Lib.hid h2
  have H3 := Lib.hid h3
  clear h1 h2 h3 hw3
  go_wp2
  go_end0
  exact ⟨v', rfl, H1.out, H2.out, H3.out⟩


theorem rbytes_w (base g : Nat) (v : Value) (xs : List Nat) (w : World) (h : Wr base w 58 g v xs) (hl : xs.length ≤ 140737488351232) :
    Calls Try.prog 76 #[.pointer (some ⟨g, 0, none⟩)] w fun e w' => Got8 w w' e xs := by
  have hc := cell_of_one h.cell
  have hglt := h.lt
  obtain ⟨A, c, rfl, hcn, _, _⟩ := own_shape h.own
  have HR := Lib.hid (rd_own h.own)
  clear h
  have h0 := own_lit w w.heap.size [] 5 0 (Nat.le_refl _) (by decide) rfl
  have hr1 := Lib.hid (HR.out.below ((Below.refl _ _).alloc (Nat.le_refl _) (.cells [].toArray 5)))
  go_enter Try.func76, Try.ntmps76
  go_wp2_with (at_builtin; (refine app8 _ rfl (.tmp 5) (.tmp 9) rfl w.heap.size _ 0 [] rfl h0 A xs.length c xs rfl rfl hr1.out (by omega) (by simp) ?_); intro v1 w1 ho hg _; have HO := Lib.hid ho; have HG := Lib.hid hg; clear ho hg)
  go_ret
  exact got8_mk HO.out (by omega) (by simp) (((Below.refl _ _).alloc (Nat.le_refl _) _).trans (below_of_grown HG.out (by simp) (fun k hk => (h0.lt k hk).1)))


theorem len_w (base g : Nat) (v : Value) (xs : List Nat) (w : World) (h : Wr base w 50 g v xs) :
    Calls Try.prog 41 #[.pointer (some ⟨g, 0, none⟩)] w fun e w' => e = .returned (.int .i64 (xs.length : Int)) ∧ w = w' := by
  have hc := cell_of_one h.cell
  obtain ⟨A, c, rfl, _⟩ := own_shape h.own
  clear h
  go_enter Try.func41, Try.ntmps41
  go_wp2
  go_ret
  exact ⟨rfl, rfl⟩
theorem len_none (w : World) : Calls Try.prog 41 #[.pointer none] w fun e w' => e = .returned (.int .i64 0) ∧ w = w' := by
  go_enter Try.func41, Try.ntmps41
  go_wp2
  go_ret
  exact ⟨rfl, rfl⟩

end Go.Proofs.Ytfgjlplfpjfnoaa
