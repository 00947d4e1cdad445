/- works: what the trial of the cache computes, plainly. Conditions: none. -/
import Derived.Test.YtomjfhlcploblaaPfxK
import Derived.Test.YtomjfhlcploblaaPoolE
namespace Go.Proofs.Ytomjfhlcploblaa.Pfx
open Go.RowKit Go.Proofs.YtomjfhlcploblaaW.PrintWords Go.Proofs.YtomjfhlcploblaaW.PrintMore Go.Proofs.Ytomjfhlcploblaa.Pool Go.Proofs.Ytomjfhlcploblaa.MapsV
set_option linter.unusedVariables false
set_option linter.unusedSimpArgs false

def P0 : Pl := init 1 1 2 1
theorem P0_ok : P0.Ok := init_ok ⟨by decide, by decide, by decide, by decide, by decide, by decide, by decide, by decide⟩
def P1 : Pl := P0.takeS 0
theorem P1_ok : P1.Ok := Pl.takeS_ok P0_ok (by decide)
def P2 : Pl := P1.holdS 0
theorem P2_cs : P2.cs = [2, 0] := by decide
def P3 : Pl := P2.dropS 0
theorem P3_cs : P3.cs = [1, 0] := by decide
def C1 (g : Nat) : Cs := ⟨[(⟨0, pad [7], 1, 0, 0, 1⟩, g)], 1, 1⟩
def C0 : Cs := ⟨[], 0, 0⟩
theorem may_one : mayB C0 1 P1 [7] [0] = true := by decide
theorem keep_one {at_ : Int} {C' : Cs} {S' : Pl} (h : KS 1 [7] [0] C0 P1 1 at_ C' S') : ∃ g, C' = C1 g ∧ S' = P2 := by
  cases h with
  | hit h hq =>
    cases h with
    | start => exact absurd hq (by simp [nx, C0])
  | @new _ _ _ _ g h hq =>
    cases h with
    | start => exact ⟨g, rfl, rfl⟩
theorem found_one (g : Nat) : found (C1 g) 1 [7, 8] = [(⟨0, pad [7], 1, 0, 0, 1⟩, g)] := by rfl
theorem used_one (g : Nat) : (C1 g).used [(⟨0, pad [7], 1, 0, 0, 1⟩, g)] = ⟨[(⟨0, pad [7], 1, 0, 0, 2⟩, g)], 1, 2⟩ := by rfl
theorem cand_one (g : Nat) : Cand P3 (⟨0, pad [7], 1, 0, 0, 2⟩, g) := ⟨rfl, show P3.countE 0 = 1 by decide⟩
theorem shrink_one {k : Nat} {g : Nat} {C' : Cs} {S' : Pl} (h : Steps k ⟨[(⟨0, pad [7], 1, 0, 0, 2⟩, g)], 1, 2⟩ P3 C' S') (h1 : (k : Int) ≤ 1 ∨ k = 0) (h2 : (k : Int) < 1 → IsOld C'.N S' none) : k = 1 ∧ S'.left = 2 := by
  have hk : k = 0 ∨ k = 1 := by omega
  rcases hk with rfl | rfl
  · obtain ⟨rfl, rfl⟩ := h
    exact absurd (cand_one g) (h2 (by decide) _ List.mem_cons_self)
  · obtain ⟨C1', S1, ⟨rfl, rfl⟩, q, hq, rfl, rfl⟩ := h
    have hm := hq.1
    simp only [List.mem_singleton] at hm
    subst hm
    exact ⟨rfl, show (P3.dropS 0).left = 2 by decide⟩
theorem fine_one : Fine C0 P1 0 := ⟨fun q h => absurd h List.not_mem_nil, by decide, by decide, by decide⟩
#print axioms shrink_one
end Go.Proofs.Ytomjfhlcploblaa.Pfx
