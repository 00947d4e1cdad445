/- A table trimmed: plain laws. Conditions: none. -/
import Derived.Test.YtomjfhlcploblaaPoolZ
namespace Go.Proofs.Ytomjfhlcploblaa.Pool
open Go.RowKit Go.Proofs.YtomjfhlcploblaaW.PrintWords Go.Proofs.YtomjfhlcploblaaW.PrintMore
set_option linter.unusedVariables false
set_option linter.unusedSimpArgs false

theorem dropS_ok {S : Pl} (hok : S.Ok) (b : Int) : (S.dropS b).Ok := by
  unfold Pl.dropS
  split
  · refine Pl.setC_ok hok _ _ ?_
    by_cases h : b.toNat < S.cs.length
    · have := hok.cb (S.cs.getD b.toNat 0) (by simp [List.getD_eq_getElem?_getD, List.getElem?_eq_getElem h])
      omega
    · rw [List.getD_eq_getElem?_getD, List.getElem?_eq_none (by omega)]
      decide
  · exact hok
theorem dropS_NZ (S : Pl) (b : Int) : (S.dropS b).N = S.N ∧ (S.dropS b).Z = S.Z ∧ (S.dropS b).L = S.L ∧ (S.dropS b).W = S.W ∧ (S.dropS b).k = S.k ∧ (S.dropS b).v = S.v := by
  unfold Pl.dropS
  split <;> exact ⟨rfl, rfl, rfl, rfl, rfl, rfl⟩
/-- The last j blocks dropped, the last first. -/
def trimN (S : Pl) (bl : List Nat) : Nat → Pl
  | 0 => S
  | j + 1 => (trimN S bl j).dropS ((bl.getD (bl.length - 1 - j) 0 : Nat) : Int)
theorem trimN_ok {S : Pl} (hok : S.Ok) (bl : List Nat) : ∀ j, (trimN S bl j).Ok
  | 0 => hok
  | j + 1 => dropS_ok (trimN_ok hok bl j) _
theorem trimN_NZ (S : Pl) (bl : List Nat) : ∀ j, (trimN S bl j).N = S.N ∧ (trimN S bl j).Z = S.Z ∧ (trimN S bl j).L = S.L ∧ (trimN S bl j).W = S.W ∧ (trimN S bl j).k = S.k ∧ (trimN S bl j).v = S.v
  | 0 => ⟨rfl, rfl, rfl, rfl, rfl, rfl⟩
  | j + 1 => by
    obtain ⟨a1, a2, a3, a4, a5, a6⟩ := dropS_NZ (trimN S bl j) ((bl.getD (bl.length - 1 - j) 0 : Nat) : Int)
    obtain ⟨b1, b2, b3, b4, b5, b6⟩ := trimN_NZ S bl j
    exact ⟨a1.trans b1, a2.trans b2, a3.trans b3, a4.trans b4, a5.trans b5, a6.trans b6⟩
#print axioms trimN_NZ
end Go.Proofs.Ytomjfhlcploblaa.Pool
