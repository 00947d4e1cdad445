/- Plain laws of the chances: a greater TopP and TopK. Conditions: none. -/
import Derived.Test.YtfnphepiopncbaaDoorPickM
namespace Go.Proofs.YtfnphepiopncbaaDoor.Pick
open Go.RowKit Go.Proofs.YtfnphepiopncbaaDoorW.PrintWords Go.Proofs.YtfnphepiopncbaaDoor.Srt
open Go.Proofs.YtfnphepiopncbaaDoor.PPickSound (S45 z45 k45 k45_mk)
open Go.Proofs.YtfnphepiopncbaaDoor.Heads (kI seqOf kv)
set_option linter.unusedVariables false
set_option linter.unusedSimpArgs false

theorem cut2_prefix {K k : Int} (h : k = 0 ∨ (K ≠ 0 ∧ K ≤ k)) (h0 : 0 ≤ K ∧ 0 ≤ k) (l0 : List S45) : ∃ m, 1 ≤ m ∧ cut2 K l0 = (cut2 k l0).take m := by
  rcases h with h | h
  · subst h
    by_cases hK : 0 < K
    · refine ⟨K.toNat, by omega, ?_⟩
      unfold cut2
      rw [if_pos hK, if_neg (by omega)]
    · refine ⟨l0.length + 1, by omega, ?_⟩
      unfold cut2
      rw [if_neg hK, if_neg (by omega), List.take_of_length_le (by omega)]
  · refine ⟨K.toNat, by omega, ?_⟩
    unfold cut2
    rw [if_pos (by omega), if_pos (by omega), List.take_take, Nat.min_eq_left (by omega)]
theorem wts2_take (T : Int) (xs : List S45) {m : Nat} (hm : 1 ≤ m) : wts2 T (xs.take m) = (wts2 T xs).take m := by
  unfold wts2
  rw [List.map_take]
  cases xs with
  | nil => simp
  | cons x xs =>
    cases m with
    | zero => omega
    | succ m => rfl
theorem cutN_mono : ∀ (xs : List S45) (m : Nat) (h a b : Int), a ≤ b → cutN a h (xs.take m) ≤ cutN b h xs := by
  intro xs
  induction xs with
  | nil => intro m h a b hab; rw [List.take_nil]; exact Nat.le_refl _
  | cons x xs ih =>
    intro m h a b hab
    cases m with
    | zero => exact Nat.zero_le _
    | succ m =>
      rw [List.take_succ_cons]
      unfold cutN
      have := ih m (h + x.f1) a b hab
      split
      · rw [if_pos (by omega)]
        omega
      · exact Nat.zero_le _
theorem tot_nonneg {xs : List S45} (h : Wts xs) : 0 ≤ tot xs := (tot_range h).1
theorem tot_take {xs : List S45} (h : Wts xs) (m : Nat) : tot (xs.take m) ≤ tot xs := by
  have e : tot xs = tot (xs.take m) + tot (xs.drop m) := by
    unfold tot
    rw [← List.sum_append, ← List.map_append, List.take_append_drop]
  have h2 : Wts (xs.drop m) := fun x hx => h x (List.mem_of_mem_drop hx)
  have := tot_nonneg h2
  omega
theorem wts2_wts (T : Int) (l1 : List S45) : Wts (wts2 T l1) := wtf_wts _ _ _
theorem later_nested {p q : Par} (hT : q.T = p.T) (hp : p.ok) (hq : q.ok) (hP : p.P ≤ q.P) (hK : q.K = 0 ∨ (p.K ≠ 0 ∧ p.K ≤ q.K)) (l0 : List S45) : ∃ m, later p l0 = (later q l0).take m := by
  rw [later_eq, later_eq, hT]
  split
  · obtain ⟨m, hm, e⟩ := cut2_prefix hK ⟨hp.2.1.1, hq.2.1.1⟩ l0
    rw [e, wts2_take _ _ hm]
    have hw := wts2_wts p.T (cut2 q.K l0)
    generalize wts2 p.T (cut2 q.K l0) = xs at hw ⊢
    have h1 : thinN p.P (xs.take m) ≤ thinN q.P xs := by
      unfold thinN
      refine cutN_mono xs m 0 _ _ ?_
      have h2 := tot_take hw m
      have h3 := tot_nonneg (fun x hx => hw x (List.mem_of_mem_take hx) : Wts (xs.take m))
      have h4 : tot (xs.take m) * p.P ≤ tot (xs.take m) * q.P := Int.mul_le_mul_of_nonneg_left hP h3
      have h5 : tot (xs.take m) * q.P ≤ tot xs * q.P := Int.mul_le_mul_of_nonneg_right h2 (by have := hq.2.2.1.1; omega)
      omega
    refine ⟨min m (thinN p.P (xs.take m)), ?_⟩
    rw [List.take_take, List.take_take, Nat.min_comm m, Nat.min_assoc, Nat.min_comm m]
    congr 1
    omega
  · exact ⟨((l0.take 1).map oneW).length, by rw [List.take_length]⟩
theorem take_len {α : Type} {l : List α} {m : Nat} {k : List α} (h : k = l.take m) : k.length ≤ l.length ∧ k = l.take k.length := by
  subst h
  rw [List.length_take]
  refine ⟨by omega, ?_⟩
  rcases Nat.le_total m l.length with h | h
  · rw [Nat.min_eq_left h]
  · rw [Nat.min_eq_right h, List.take_of_length_le h, List.take_length]
/-- What a greater TopP and TopK add, they add at the end. -/
theorem chancesR_nested (T K P N S k part : Int) (l sn : List Int) (al : List Bool) (hp : Par.ok ⟨T, K, P, N, S⟩) (hq : Par.ok ⟨T, k, part, N, S⟩) (hP : P ≤ part) (hK : k = 0 ∨ (K ≠ 0 ∧ K ≤ k)) :
    (chancesR ⟨T, K, P, N, S⟩ l sn al).length ≤ (chancesR ⟨T, k, part, N, S⟩ l sn al).length ∧ chancesR ⟨T, K, P, N, S⟩ l sn al = (chancesR ⟨T, k, part, N, S⟩ l sn al).take (chancesR ⟨T, K, P, N, S⟩ l sn al).length := by
  unfold chancesR
  rw [if_pos hp, if_pos hq]
  unfold chancesf
  obtain ⟨m, e⟩ := later_nested (p := ⟨T, K, P, N, S⟩) (q := ⟨T, k, part, N, S⟩) rfl hp hq hP hK (firsts (scores N sn l) al)
  exact take_len e
theorem errR_cases (p : Par) (l sn : List Int) (al : List Bool) : (errR p = 0 ∧ p.ok) ∨ (errR p = 100 ∧ chancesR p l sn al = []) := by
  unfold errR chancesR
  by_cases h : p.ok
  · exact .inl ⟨if_pos h, h⟩
  · exact .inr ⟨if_neg h, if_neg h⟩
#print axioms chancesR_nested
end Go.Proofs.YtfnphepiopncbaaDoor.Pick
