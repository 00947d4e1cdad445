/- PrefixNil: a nil cache answers as the document says; the walk. Conditions: none. -/
import Derived.Test.YtomjfhlcploblaaPfxO
namespace Go.Proofs.Ytomjfhlcploblaa.Pfx
open Go.RowKit Go.Proofs.YtomjfhlcploblaaW.PrintWords Go.Proofs.YtomjfhlcploblaaW.PrintMore Go.Proofs.Ytomjfhlcploblaa.Pool Go.Proofs.Ytomjfhlcploblaa.MapsV
set_option linter.unusedVariables false
set_option linter.unusedSimpArgs false

set_option maxHeartbeats 4000000 in
set_option maxRecDepth 100000 in
theorem nil_walk (u v : Value) (n : Int) (w : World) : Calls Try.prog 10 #[u, v, .int .i64 n] w (fun e w' => e = .returned (.bool true) ∧ Below w.heap.size w w') := by
  go_enter Try.func10, Try.ntmps10
  go_wp2_with fail
  (with_reducible refine Calls.mono (works_calls _) ?_)
  rintro e w1 ⟨rfl, hb⟩
  go_wp2_with (first | (go_at_call 46; (with_reducible refine Calls.mono (new_nil _) ?_); rintro e w2 ⟨rfl, rfl⟩) | (go_at_call 44; (with_reducible refine Calls.mono (find_nil _ _) ?_); rintro e w2 ⟨rfl, rfl⟩) | (go_at_call 41; (with_reducible refine Calls.mono (keep_nil _ _ _) ?_); rintro e w2 ⟨rfl, rfl⟩) | (go_at_call 47; (with_reducible refine Calls.mono (shrink_nil _ _) ?_); rintro e w2 ⟨rfl, rfl⟩) | (go_at_call 48; (with_reducible refine Calls.mono (len_nil _) ?_); rintro e w2 ⟨rfl, rfl⟩) | fail)
  go_ret
  exact ⟨rfl, hb⟩
#print axioms nil_walk
end Go.Proofs.Ytomjfhlcploblaa.Pfx
