/- Grow and Trim below 0; a position below 0. Conditions: a table in memory. -/
import Derived.Test.YtomjfhlcploblaaPoolY
namespace Go.Proofs.Ytomjfhlcploblaa.Pool
open Go.RowKit Go.Proofs.YtomjfhlcploblaaW.PrintWords Go.Proofs.YtomjfhlcploblaaW.PrintMore
set_option linter.unusedVariables false
set_option linter.unusedSimpArgs false
attribute [local go_sem ↓] Go.wp_at_zero Go.wp_at_succ

theorem grow_neg (t : Nat) (n : Int) (w : World) (hn : n < 0) : Calls Try.prog 23 #[.pointer (some ⟨t, 0, none⟩), .int .i64 n] w (Quiet w (.int .i64 1)) := by
  have b0 : decide (n < 0) = true := by simpa using hn
  go_enter Try.func23, Try.ntmps23
  go_wp2_with fail
  go_ret
  exact ⟨rfl, 0, rfl⟩
theorem trim_neg (t : Nat) (n : Int) (w : World) (hn : n < 0) : Calls Try.prog 28 #[.pointer (some ⟨t, 0, none⟩), .int .i64 n] w (Quiet w (.int .i64 1)) := by
  have b0 : decide (n < 0) = true := by simpa using hn
  go_enter Try.func28, Try.ntmps28
  go_wp2_with fail
  go_ret
  exact ⟨rfl, 0, rfl⟩
theorem place_neg (t : Nat) (n : Int) (w : World) (hn : n < 0) : Calls Try.prog 68 #[.pointer (some ⟨t, 0, none⟩), .int .i64 n] w (Pair w 0 62) := by
  have b0 : decide (n < 0) = true := by simpa using hn
  go_enter Try.func68, Try.ntmps68
  go_wp2_with fail
  go_quiet (fail)
  go_wp2_with fail
  go_ret2
  exact ⟨rfl, _, rfl⟩
theorem tslot_neg (t : Nat) (n : Int) (w : World) (hn : n < 0) : Calls Try.prog 26 #[.pointer (some ⟨t, 0, none⟩), .int .i64 n] w (Pair w 0 62) := by
  have hpl := place_neg t n w hn
  go_enter Try.func26, Try.ntmps26
  go_wp2_with (first | (go_at_call 68; refine hpl.mono ?_; clear hpl; rintro e w1 ⟨rfl, j, rfl⟩) | fail)
  go_ret2
  exact ⟨rfl, j, rfl⟩
#print axioms grow_neg
#print axioms tslot_neg
end Go.Proofs.Ytomjfhlcploblaa.Pool
