/- octet.backs, octet.Patch: what they return. -/
import Derived.Test.YtjipebedibjoiaaSums
import Derived.Test.YtjipebedibjoiaaPatPlain
import Derived.ChangeKeysEq
namespace Go.Proofs.Ytjipebedibjoiaa
open Go Go.RowKit
set_option linter.unusedVariables false

def v8 (x : Nat) : Value := .int .u8 (x : Int)
theorem b8_def (bs : List Nat) : b8 bs = bs.map v8 := rfl
theorem b8_one' (bs : List Nat) : (b8 bs).toArray.all (·.oneCell') = true := by
  rw [Array.all_eq_true_iff_forall_mem]
  intro x hx
  exact b8_one bs x (by simpa using hx)
theorem shr28 (x : Nat) : (x : Int) / 268435456 = ((x / 268435456 : Nat) : Int) := by omega

theorem run_index_arr {P : Program} (w : World) (t e : TypeId) (n : Nat) (cs : Array Value) (i : Nat) (v : Value) (inf : TypeInfo) (h : P.underlying t = some (.array n e)) (he : P.plainKey e = true) (hi : P.info? e = some inf) (h1 : P.cellsOf e = 1) (hn : i < n) (hx : cs[i]? = some v) :
    (Instr.index t (.agg cs) (.int .i64 (i : Int))).run P w = .ok v w := by
  have hin : (0 : Int) ≤ (i : Int) ∧ (i : Int) < (n : Int) := by omega
  simp [Instr.index, asIntOf, run_underlying h, hin, hn, run_sizeOf w hi, h1, run_part_plain w he hx]
theorem run_index_tab (w : World) (k x : Nat) (hk : k < 16) (hx : tab[k]? = some (.int .u32 (x : Int))) :
    (Instr.index 91 (.agg tab.toArray) (.int .i64 (k : Int))).run Try.prog w = .ok (.int .u32 (x : Int)) w := by
  obtain ⟨inf, hi⟩ : ∃ inf, Try.prog.info? 67 = some inf := Option.isSome_iff_exists.1 (by kernel_rfl)
  exact run_index_arr w _ 67 16 _ k _ inf Try.underlying91 (by kernel_rfl) hi (by kernel_rfl) hk (by simpa using hx)

end Go.Proofs.Ytjipebedibjoiaa
