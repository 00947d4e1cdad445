/- A fresh pool whose blocks are taken from below and given back from above: plain laws. Conditions: none. -/
import Derived.Test.YtomjfhlcploblaaPoolMt
namespace Go.Proofs.Ytomjfhlcploblaa.Pool
set_option linter.unusedVariables false
set_option linter.unusedSimpArgs false

/-- The first i blocks are held once, the others are free. -/
structure E23 (S : Pl) (n k i : Nat) : Prop where
  ok : S.Ok
  L : S.L = 2
  W : S.W = 3
  N : S.N = n
  Z : S.Z = k
  le : i ≤ n
  cs : S.cs = List.replicate i 1 ++ List.replicate (n - i) 0
theorem E23.left {S : Pl} {n k i : Nat} (h : E23 S n k i) : S.left = n - i := by
  unfold Pl.left
  rw [h.cs, List.count_append, List.count_replicate, List.count_replicate]
  simp
theorem E23.get {S : Pl} {n k i : Nat} (h : E23 S n k i) (b : Nat) : S.cs.getD b 0 = if b < i then 1 else 0 := by
  rw [h.cs, List.getD_eq_getElem?_getD, List.getElem?_append, List.length_replicate]
  by_cases hb : b < i
  · rw [if_pos hb, if_pos hb, List.getElem?_replicate, if_pos hb]
    rfl
  · rw [if_neg hb, if_neg hb, List.getElem?_replicate]
    split <;> rfl
theorem E23.start {n k : Nat} (h : Fits 2 3 n k) : E23 (init 2 3 n k) n k 0 := ⟨init_ok (by simpa using h), rfl, rfl, rfl, rfl, Nat.zero_le _, by simp [init]⟩
theorem E23.set {S : Pl} {n k i : Nat} (h : E23 S n k i) (hi : i < n) : S.cs.set i 1 = List.replicate (i + 1) 1 ++ List.replicate (n - (i + 1)) 0 := by
  apply List.ext_getElem?
  intro j
  have hl : S.cs.length = n := by rw [h.cs]; simp; have := h.le; omega
  rw [List.getElem?_set, hl, h.cs, List.getElem?_append, List.getElem?_append, List.length_replicate, List.length_replicate]
  simp only [List.getElem?_replicate]
  repeat' split
  all_goals first | rfl | omega
theorem E23.take {S : Pl} {n k i : Nat} (h : E23 S n k i) (hi : i < n) : E23 (S.takeS i) n k (i + 1) :=
  ⟨Pl.takeS_ok h.ok (by rw [h.N]; exact hi), h.L, h.W, h.N, h.Z, by omega, h.set hi⟩
theorem E23.low {S : Pl} {n k i : Nat} (h : E23 S n k i) (hi : i < n) : S.low = i :=
  Pl.low_eq (by rw [h.ok.cl, h.N]; exact hi) (by rw [h.get, if_neg (by omega)]) (fun j hj => by rw [h.get, if_pos hj]; omega)
theorem E23.grow {S : Pl} {n k i : Nat} (h : E23 S n k i) (bl : List Nat) : ∀ j, i + j ≤ n → E23 (growN S bl j).1 n k (i + j) ∧ (growN S bl j).2 = bl ++ List.range' i j
  | 0, _ => ⟨h, by simp [growN]⟩
  | j + 1, hj => by
    obtain ⟨h1, h2⟩ := E23.grow h bl j (by omega)
    have hl := h1.low (by omega)
    refine ⟨?_, ?_⟩
    · show E23 ((growN S bl j).1.takeS (growN S bl j).1.low) n k (i + (j + 1))
      rw [hl]
      exact h1.take (by omega)
    · show (growN S bl j).2 ++ [(growN S bl j).1.low] = _
      rw [hl, h2, List.append_assoc]
      congr 1
      rw [List.range'_concat]
      simp
theorem E23.drop {S : Pl} {n k i : Nat} (h : E23 S n k (i + 1)) : E23 (S.dropS (i : Int)) n k i := by
  have hle := h.le
  have hE : S.heldE (i : Int) = 0 := by
    unfold Pl.heldE
    rw [if_neg]
    rw [h.N, Int.toNat_natCast, h.get, if_pos (by omega)]
    omega
  have hD : S.dropS (i : Int) = S.setC i 0 := by
    unfold Pl.dropS
    rw [if_pos hE, Int.toNat_natCast, h.get, if_pos (by omega)]
  refine ⟨dropS_ok h.ok _, ?_, ?_, ?_, ?_, by omega, ?_⟩
  · rw [hD]; exact h.L
  · rw [hD]; exact h.W
  · rw [hD]; exact h.N
  · rw [hD]; exact h.Z
  · rw [hD]
    show S.cs.set i 0 = _
    apply List.ext_getElem?
    intro j
    have hl : S.cs.length = n := by rw [h.cs]; simp; omega
    rw [List.getElem?_set, hl, h.cs, List.getElem?_append, List.getElem?_append, List.length_replicate, List.length_replicate]
    simp only [List.getElem?_replicate]
    repeat' split
    all_goals first | rfl | omega
/-- The last j of i blocks i0, i0+1, .. given back. -/
theorem E23.trim {S : Pl} {n k i0 m : Nat} (h : E23 S n k (i0 + m)) : ∀ j, j ≤ m → E23 (trimN S (List.range' i0 m) j) n k (i0 + m - j)
  | 0, _ => h
  | j + 1, hj => by
    have h1 := E23.trim h j (by omega)
    have e1 : i0 + m - j = (i0 + m - (j + 1)) + 1 := by omega
    rw [e1] at h1
    have e2 : (List.range' i0 m).getD ((List.range' i0 m).length - 1 - j) 0 = i0 + m - (j + 1) := by
      rw [List.length_range', List.getD_eq_getElem?_getD, List.getElem?_range' (by omega)]
      simp
      omega
    show E23 ((trimN S (List.range' i0 m) j).dropS _) n k (i0 + m - (j + 1))
    rw [e2]
    exact h1.drop
#print axioms E23.trim
#print axioms E23.drop
end Go.Proofs.Ytomjfhlcploblaa.Pool
