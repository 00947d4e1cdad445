/- Sets compared. Conditions: none. -/
import Derived.Test.YtmekcllgofeenaaN3
import Derived.Outline
import Derived.WalkLawsBesides
import Derived.Laws.StructEq
namespace Go.Proofs.Ytmekcllgofeenaa.EqB
open Go.RowKit
theorem part22 (x : Int) (w : World) : (part 22 #[.int .u64 x] 0).run Try.prog w = .ok (.int .u64 x) w := by
  go_simp
theorem eqA56 (d : Nat) (w : World) (x y : Int) : (Op.equalIn (d + 2) 56 (.agg #[.int .u64 x]) (.agg #[.int .u64 y])).run Try.prog w = .ok (x == y) w := by
  have h22 := run_equalIn_int (P := Try.prog) w d 22 .u64 .u64 x y Try.underlying22
  rw [Op.equalIn]
  simp [run_underlying Try.underlying56, part22]
  rw [h22]
  cases hxy : (x == y) <;> simp [Result.andThen]
theorem eql56 (w : World) (x y : Int) : (binOp .eql 56 (.agg #[.int .u64 x]) (.agg #[.int .u64 y])).run Try.prog w = .ok (.bool (x == y)) w := by
  simp only [binOp]
  simp [Op.equal, Op.maxDepth, eqA56 9998 w x y]
theorem neq56 (w : World) (x y : Int) : (binOp .neq 56 (.agg #[.int .u64 x]) (.agg #[.int .u64 y])).run Try.prog w = .ok (.bool (x != y)) w := by
  simp only [binOp]
  simp [Op.equal, Op.maxDepth, eqA56 9998 w x y, bne]
#print axioms eqA56
#print axioms neq56
end Go.Proofs.Ytmekcllgofeenaa.EqB
