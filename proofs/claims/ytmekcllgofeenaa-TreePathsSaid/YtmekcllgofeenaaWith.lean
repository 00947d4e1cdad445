/- A set with one place more. Conditions: none. -/
import Derived.Test.YtmekcllgofeenaaN3
import Derived.Outline
import Derived.WalkLawsBesides
import Derived.BigRegion
import Derived.Laws.ResultCell
import Derived.Laws.BitsAllLaws
namespace Go.Proofs.Ytmekcllgofeenaa.With
open Go.RowKit Go.Proofs.YtmekcllgofeenaaW.PrintWords Go.Proofs.YtmekcllgofeenaaW.PrintLast Go.Proofs.YtmekcllgofeenaaW.PrintMore
set_option linter.unusedVariables false
set_option linter.unusedSimpArgs false

theorem pow_cast (i : Nat) : ((2 : Int) ^ i) = ((2 ^ i : Nat) : Int) := by simp
theorem wrap_u64 {x : Int} (h : 0 ≤ x) (h' : x < 18446744073709551616) : IntKind.u64.wrap x = x := by
  have : IntKind.u64.wrap x = x % 18446744073709551616 := by simp [IntKind.wrap, IntKind.signed, IntKind.bits]
  rw [this]
  omega
theorem pow_lt {i : Nat} (h : i < 64) : 2 ^ i < 18446744073709551616 := by
  have : 2 ^ i ≤ 2 ^ 63 := Nat.pow_le_pow_right (by omega) (by omega)
  have e : 2 ^ 63 = 9223372036854775808 := by decide
  omega
theorem shift_one {i : Nat} (h : i < 64) : IntKind.u64.wrap ((2 : Int) ^ i) = (2 : Int) ^ i := by
  have h1 := pow_lt h
  rw [pow_cast]
  generalize 2 ^ i = q at *
  exact wrap_u64 (by omega) (by omega)
theorem or_one {x i : Nat} (hi : i < 64) (hx : x < 18446744073709551616) : bits .or .u64 (x : Int) ((2 : Int) ^ i) = ((x ||| 2 ^ i : Nat) : Int) := by
  rw [pow_cast]
  exact u64_or_nat x (2 ^ i) hx (pow_lt hi)

set_option maxHeartbeats 4000000 in
theorem with_ (x i : Nat) (w : World) (hi : i < 64) (hx : x < 18446744073709551616) :
    Calls Try.prog 34 #[.agg #[.int .u64 x], .int .i64 i] w fun e w' => e = .returned (.agg #[.int .u64 ((x ||| 2 ^ i : Nat) : Int)]) ∧ Below w.heap.size w w' := by
  have h1 : ((i : Int)) < 64 := by omega
  have h2 : (0 : Int) ≤ ((i : Int)) := by omega
  have e1 : ((i : Int)) / 64 = 0 := by omega
  have e2 : i / 64 = 0 := by omega
  have e3 : ((i : Int)) % 64 = i := by omega
  have e4 : i % 64 = i := by omega
  have e5 := shift_one hi
  have e6 := or_one hi hx
  clear hx
  go_enter Try.func34, Try.ntmps34
  go_wp2
  go_region
  go_wp2
  refine bodyPost_ret (v := .agg #[.int .u64 ((x ||| 2 ^ i : Nat) : Int)]) (by simp [results, Try.results34, go_sem, asAddr, Result.andThen]) rfl ⟨rfl, ?_⟩
  exact (((Below.refl _ _).alloc (Nat.le_refl _) _).alloc (by simp) _).drew
#print axioms with_
end Go.Proofs.Ytmekcllgofeenaa.With
