/- A table grows. Conditions: a table and its pool in memory. -/
import Derived.Test.YtomjfhlcploblaaPoolV
namespace Go.Proofs.Ytomjfhlcploblaa.Pool
open Go.RowKit Go.Proofs.YtomjfhlcploblaaW.PrintWords Go.Proofs.YtomjfhlcploblaaW.PrintMore
set_option linter.unusedVariables false
set_option linter.unusedSimpArgs false
attribute [local go_sem ↓] Go.wp_at_zero Go.wp_at_succ

/-- The lowest free block. -/
def Pl.low (S : Pl) : Nat := S.cs.findIdx (fun c => c == 0)
theorem Pl.low_eq {S : Pl} {b : Nat} (hb : b < S.cs.length) (hz : S.cs.getD b 0 = 0) (hl : ∀ j, j < b → S.cs.getD j 0 ≠ 0) : S.low = b := by
  unfold Pl.low
  rw [List.findIdx_eq hb]
  refine ⟨?_, fun j hj => ?_⟩
  · simpa [List.getD_eq_getElem?_getD, List.getElem?_eq_getElem hb] using hz
  · have := hl j hj
    simpa [List.getD_eq_getElem?_getD, List.getElem?_eq_getElem (show j < S.cs.length by omega)] using this
/-- j blocks more, one by one. -/
def growN (S : Pl) (bl : List Nat) : Nat → Pl × List Nat
  | 0 => (S, bl)
  | j + 1 => ((growN S bl j).1.takeS (growN S bl j).1.low, (growN S bl j).2 ++ [(growN S bl j).1.low])
theorem takeS_NZ (S : Pl) (b : Nat) : (S.takeS b).N = S.N ∧ (S.takeS b).Z = S.Z ∧ (S.takeS b).L = S.L ∧ (S.takeS b).W = S.W := ⟨rfl, rfl, rfl, rfl⟩
theorem growN_len (S : Pl) (bl : List Nat) : ∀ j, (growN S bl j).2.length = bl.length + j
  | 0 => rfl
  | j + 1 => by simp [growN, growN_len S bl j]; omega
theorem growN_NZ (S : Pl) (bl : List Nat) : ∀ j, (growN S bl j).1.N = S.N ∧ (growN S bl j).1.Z = S.Z
  | 0 => ⟨rfl, rfl⟩
  | j + 1 => growN_NZ S bl j
theorem low_lt {S : Pl} (hok : S.Ok) (h : 0 < S.left) : S.low < S.N ∧ S.cs.getD S.low 0 = 0 := by
  have hm : (0 : Nat) ∈ S.cs := List.count_pos_iff.1 h
  have hlt : S.low < S.cs.length := by
    unfold Pl.low
    exact List.findIdx_lt_length_of_exists ⟨0, hm, by simp⟩
  refine ⟨by rw [← hok.cl]; exact hlt, ?_⟩
  have := List.findIdx_getElem (xs := S.cs) (p := fun c => c == 0) (w := hlt)
  simp only [Pl.low] at hlt ⊢
  rw [List.getD_eq_getElem?_getD, List.getElem?_eq_getElem hlt]
  simpa using this
theorem takeS_left {S : Pl} (hok : S.Ok) {b : Nat} (hb : b < S.N) (hz : S.cs.getD b 0 = 0) : (S.takeS b).left + 1 = S.left := by
  have := count_set S.cs b 1 (by rw [hok.cl]; exact hb)
  rw [if_pos hz, if_neg (by omega)] at this
  exact this
theorem growN_ok {S : Pl} (hok : S.Ok) (bl : List Nat) : ∀ j, j ≤ S.left → (growN S bl j).1.Ok ∧ (growN S bl j).1.left + j = S.left
  | 0, _ => ⟨hok, rfl⟩
  | j + 1, h => by
    obtain ⟨h1, h2⟩ := growN_ok hok bl j (by omega)
    obtain ⟨h3, h4⟩ := low_lt h1 (by omega)
    have h5 := takeS_left h1 h3 h4
    exact ⟨Pl.takeS_ok h1 h3, by show ((growN S bl j).1.takeS (growN S bl j).1.low).left + (j + 1) = S.left; omega⟩
#print axioms growN_ok
end Go.Proofs.Ytomjfhlcploblaa.Pool
