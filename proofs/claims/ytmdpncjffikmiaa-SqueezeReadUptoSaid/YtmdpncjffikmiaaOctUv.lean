/- octet.Uvarint and the reference's: the bytes that they make. -/
import Derived.Test.YtmdpncjffikmiaaApp8
import Derived.Test.YtmdpncjffikmiaaUv
namespace Go.Proofs.Ytmdpncjffikmiaa
open Go Go.RowKit

theorem low_or (v : Nat) : bits .or .u8 ((v : Int) % 256) 128 = ((v % 128 + 128 : Nat) : Int) := by
  have e : (v : Int) % 256 = ((v % 256 : Nat) : Int) := by omega
  have h := u8_or_nat (v % 256) 128 (by omega) (by omega)
  rw [e]
  refine Eq.trans h ?_
  have : v % 256 ||| 128 = v % 128 + 128 := by
    have h1 : v % 256 = v % 256 / 128 * 128 + v % 128 := by omega
    have h2 : v % 256 / 128 = 0 ∨ v % 256 / 128 = 1 := by omega
    have h3 : 128 ||| v % 128 = 128 + v % 128 := nat_join 7 128 (v % 128) (by decide) (by omega)
    rcases h2 with h2 | h2
    · have h4 : v % 256 = v % 128 := by omega
      rw [h4, Nat.or_comm, h3, Nat.add_comm]
    · have h4 : v % 256 = 128 + v % 128 := by omega
      rw [h4, ← h3, Nat.or_comm (128 ||| v % 128), ← Nat.or_assoc, Nat.or_self, h3, Nat.add_comm]
  rw [this]

set_option maxHeartbeats 400000 in
set_option maxRecDepth 100000 in
theorem uvarint_any (v : Nat) (w : World) (hv : v < 18446744073709551616) :
    Calls Try.prog 65 #[.int .u64 (v : Int)] w fun e w' => Got8 w w' e (Uv.uv v) := by
  obtain ⟨i0, hi, hz0, hz1, hz2⟩ := info_parts info8
  go_enter Try.func65, Try.ntmps65
  go_wp2
  go_loopw [0, 3] (fun x b wr => ∃ (u : Nat) (bs : List Nat), u ≤ v ∧ x = .int .u64 (u : Int) ∧ wr.ownsRow w.heap.size 5 1 b bs.length (b8 bs) ∧ Below w.heap.size w wr ∧ Hid (bs ++ Uv.uv u = Uv.uv v))
    (fun x _ _ => (intOf x).toNat)
  case atStart => exact ⟨v, [], Nat.le_refl _, rfl, World.ownsRow_nil _ _ _ _, Below.refl _ _, by simp [Hid]⟩
  case round =>
    obtain ⟨u, bs, hu, rfl, hown, hbel, H⟩ := hrel
    have hlen : bs.length ≤ 10 := by
      have h1 := Uv.uv_len_64 v hv
      rw [← H.out] at h1
      simp at h1
      omega
    have hsz := hbel.size
    by_cases hlt : u < 128
    · go_wp2_with (at_builtin; (refine wpList_push wr rfl _ _ 23 rfl w.heap.size 5 i0 (.int .u8 0) 1 Try.underlying23 hi hz0 hz1 hz2 rfl u3 bs.length (b8 bs) rfl hown (.int .u8 (u : Int)) rfl rfl (by omega) (by unfold maxLen; omega) hsz ?_); intro v' w1 hown' hgrow _)
      go_ret
      have e : bs ++ [u] = Uv.uv v := by rw [← H.out, Uv.uv_small hlt]
      exact got8_mk hown' (by rw [← e]; simp) (by rw [← e, b8_append]; rfl) (hbel.trans (below_of_grown hgrow hsz (fun k hk => (hown.lt k hk).1)))
    · go_wp2_with (at_builtin; (refine wpList_push wr rfl _ _ 23 rfl w.heap.size 5 i0 (.int .u8 0) 1 Try.underlying23 hi hz0 hz1 hz2 rfl u3 bs.length (b8 bs) rfl hown (.int .u8 (bits .or .u8 ((u : Int) % 256) 128)) rfl rfl (by omega) (by unfold maxLen; omega) hsz ?_); intro v' w1 hown' hgrow _)
      rw [low_or] at hown'
      have hbel' := hbel.trans (below_of_grown hgrow hsz (fun k hk => (hown.lt k hk).1))
      clear hown hbel hgrow
      go_wp2
      go_roundw
      case rel => exact ⟨u / 128, bs ++ [u % 128 + 128], by omega, by go_num, by simpa [b8] using hown', hbel', by rw [← H.out, Uv.uv_big (v := u) (by omega)]; simp [Hid]⟩
      case measure => simp [intOf]; omega

end Go.Proofs.Ytmdpncjffikmiaa
