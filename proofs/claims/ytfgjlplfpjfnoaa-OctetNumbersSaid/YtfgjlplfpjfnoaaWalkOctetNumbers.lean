/- OctetNumbers: its walk. -/
import Derived.Test.YtfgjlplfpjfnoaaOctRead
import Derived.Test.YtfgjlplfpjfnoaaOctRead2
import Derived.Test.YtfgjlplfpjfnoaaOctUv
import Derived.Test.YtfgjlplfpjfnoaaOctSame
import Derived.Test.YtfgjlplfpjfnoaaOctMem
import Derived.Test.YtfgjlplfpjfnoaaOctZig
namespace Go.Proofs.Ytfgjlplfpjfnoaa
open Go Go.RowKit
set_option linter.unusedVariables false

set_option maxHeartbeats 1000000 in
set_option maxRecDepth 100000 in
theorem octetNumbers_walk (a0 : Nat) (A1 : Option Addr) (c1 : Nat) (b1 : List Nat) (a2 : Int) (w : World) (w0 : a0 < 18446744073709551616) (c1l : b1.length ≤ c1) (r1 : Rd w A1 (b8 b1)) (y1 : By b1) (l1 : b1.length ≤ 140737488351232) (w2 : -9223372036854775808 ≤ a2 ∧ a2 ≤ 9223372036854775807) :
    Calls Try.prog 4 #[.int .u64 (a0 : Int), .slice A1 b1.length c1, .int .i64 a2] w fun e w' => e = .returned (.bool true) ∧ Below w.heap.size w w' := by
  have hz := Lib.hid w2
  have hlen := Uv.uv_len_64 a0 w0
  clear w2
  go_enter Try.func4, Try.ntmps4
  go_wp2_with fail
  refine (roomy_any A1 b1.length c1 b1 w r1 rfl (by omega)).mono ?_
  rintro e w1 ⟨F, cf, rfl, hf, hb1⟩
  simp only [List.length_append, List.length_cons, List.length_nil] at hf ⊢
  obtain ⟨g, rfl, hg0, hg1, hgc, _⟩ := own_pos hf (by omega)
  have s0 : (0 : Int) ≤ (b1.length : Int) := by omega
  have s1 : (b1.length : Int) ≤ (cf : Int) := by omega
  go_wp2_with fail
  refine (flipped_own w.heap.size g _ cf b1.length cf b1 [165, 90, 167, 91] w1 hf y1 rfl (by omega)).mono ?_
  rintro e w2 ⟨rfl, hf2, hg2⟩
  go_wp2_with fail
  refine (readUvarint_any (some ⟨g, 0, none⟩) b1.length cf (b1.map fl) w2 (rd_pre hf2) (by_fl _) (by simp) (by omega)).mono ?_
  rintro e w2' ⟨rfl, rfl⟩
  go_wp2_with fail
  refine (flipped_own w.heap.size g _ cf b1.length cf (b1.map fl) [165, 90, 167, 91] w2 hf2 (by_fl _) (by simp) (by omega)).mono ?_
  rintro e w3 ⟨rfl, hf3, hg3⟩
  rw [map_fl_fl y1] at hf3
  have hB3 : Below w.heap.size w w3 := (hb1.trans (below_of_grown hg2 hb1.size (fun k hk => by injection hk with hk; omega))).trans (below_of_grown hg3 (Nat.le_trans hb1.size hg2.size) (fun k hk => by injection hk with hk; omega))
  clear hf hf2 hg2 hg3 hb1
  go_wp2_with fail
  refine (uvarint_any a0 w3 w0).mono ?_
  rintro e w4 ⟨X, cx, rfl, hx4, hb4⟩
  go_wp2_with fail
  refine (uvarint_any a0 w4 w0).mono ?_
  rintro e w5 ⟨Y, cy, rfl, hy5, hb5⟩
  go_wp2_with fail
  refine (marked_own w4.heap.size (Uv.uv a0).length _ (Uv.uv a0) 3 w5 hy5 (by omega) hb5.size).mono ?_
  rintro e w6 ⟨Y', cy', rfl, hb6⟩
  have hB4 : Below w.heap.size w w4 := hB3.trans (hb4.mono hB3.size)
  have hB46 : Below w4.heap.size w4 w6 := hb5.trans hb6
  have hB6 : Below w.heap.size w w6 := hB4.trans (hB46.mono hB4.size)
  have hf6 := own_below (own_below hf3 hb4) hB46
  have hx6 := own_below hx4 hB46
  clear hf3 hb4 hb5 hb6 hx4 hy5 hB46 hB3
  go_wp2_with fail
  refine (readUvarint_any (some ⟨g, 0, none⟩) b1.length cf b1 w6 (rd_pre hf6) y1 rfl (by omega)).mono ?_
  rintro e w6' ⟨rfl, rfl⟩
  go_wp2_with fail
  refine (rreadUvarint_all A1 c1 b1 w6 (r1.below hB6) y1 (by omega)).mono ?_
  rintro e w6' ⟨rfl, rfl⟩
  go_wp2_with fail
  refine (ruvarint_any a0 w6 w0).mono ?_
  rintro e w7 ⟨Z, cz, rfl, hz7, hb7⟩
  go_wp2_with fail
  refine (same_yes X Z _ _ cx cz (Uv.uv a0) (Uv.uv a0) w7 (rd_own (own_below hx6 hb7)) (rd_own hz7) rfl rfl (by omega) (by omega) rfl).mono ?_
  rintro e w8 ⟨rfl, n8, rfl⟩
  go_wp2_with fail
  have hB8 : Below w.heap.size w (w7.drewN n8) := below_drewN (hB6.trans (hb7.mono hB6.size)) n8
  have hf8 : (w7.drewN n8).ownsRow w.heap.size 5 1 _ _ _ := own_below hf6 (below_drewN hb7 n8)
  refine (roomy_any A1 b1.length c1 b1 (w7.drewN n8) (r1.below hB8) rfl (by omega)).mono ?_
  rintro e w9 ⟨R, cr, rfl, hr9, hb9⟩
  go_wp2_with fail
  refine (same_yes (some ⟨g, 0, none⟩) R _ _ cf cr (b1 ++ [165, 90, 167, 91]) (b1 ++ [165, 90, 167, 91]) w9 (rd_own (own_below hf8 hb9)) (rd_own hr9) (by simp) (by simp) (by omega) (by simp; omega) rfl).mono ?_
  rintro e w10 ⟨rfl, n10, rfl⟩
  have hB10 : Below w.heap.size w (w9.drewN n10) := below_drewN (hB8.trans (hb9.mono hB8.size)) n10
  clear hf6 hx6 hz7 hb7 hf8 hr9 hb9 hB8 hB6 hB4
  go_wp2_with fail
  refine (zigzag_any a2 _ hz.out).mono ?_
  rintro e w10' ⟨rfl, rfl⟩
  go_wp2_with fail
  refine (rzigzag_any a2 _ hz.out).mono ?_
  rintro e w10' ⟨rfl, rfl⟩
  go_wp2_with fail
  refine (unzigzag_any a0 _ w0).mono ?_
  rintro e w10' ⟨rfl, rfl⟩
  go_wp2_with fail
  refine (runzigzag_any a0 _ w0).mono ?_
  rintro e w10' ⟨rfl, rfl⟩
  go_wp2_with fail
  go_ret
  exact ⟨rfl, hB10⟩
end Go.Proofs.Ytfgjlplfpjfnoaa
