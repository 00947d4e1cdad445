/- Orders of numbers, plainly: what the laws of heads ask of them. Conditions: none. -/
import Derived.Test.YtfokcaillibajaaHeadE
import Derived.Test.YtfokcaillibajaaHeadQ
namespace Go.Proofs.Ytfokcaillibajaa.Heads
open Go.RowKit Go.Proofs.YtfokcaillibajaaW.PrintWords Go.Proofs.Ytfokcaillibajaa.Srt
set_option linter.unusedVariables false
set_option linter.unusedSimpArgs false

theorem ordl_mem {K : Int → Int} {n : Nat} {z : Int} : z ∈ ordl K n ↔ 0 ≤ z ∧ z < n := by
  rw [(ordl_perm K n).mem_iff, nos_mem]
  simp
theorem ordl_nodup (K : Int → Int) (n : Nat) : (ordl K n).Nodup := (ordl_perm K n).nodup_iff.2 nos_nodup
theorem ordl_congr {K K' : Int → Int} {n : Nat} (c : Int) (h : ∀ z : Int, 0 ≤ z → z < (n : Int) → K' z = K z + c) : ordl K' n = ordl K n := by
  refine ordl_of (ordl_perm K' n) ?_
  refine List.Pairwise.imp_of_mem ?_ (ordl_srtd K' n)
  intro a b ha hb hab
  rw [ordl_mem] at ha hb
  have h1 := h a ha.1 ha.2
  have h2 := h b hb.1 hb.2
  unfold Srt.ahead at *
  omega
theorem ordl_getD (K : Int → Int) (n i : Nat) (h : i < n) : ∃ z : Nat, z < n ∧ (ordl K n).getD i 0 = (z : Int) := ordl_at h
theorem ordl_pair {K : Int → Int} {n i j : Nat} (hij : i < j) (hj : j < n) : Srt.ahead K ((ordl K n).getD i 0) ((ordl K n).getD j 0) := by
  have hl := ordl_len K n
  have := List.pairwise_iff_getElem.1 (ordl_srtd K n) i j (by omega) (by omega) hij
  rw [List.getD_eq_getElem?_getD, List.getD_eq_getElem?_getD, List.getElem?_eq_getElem (by omega), List.getElem?_eq_getElem (by omega)]
  exact this
theorem ordl_fresh {K : Int → Int} {n i : Nat} (h : i < n) : (ordl K n).getD i 0 ∉ (ordl K n).take i := by
  have hl := ordl_len K n
  have hd : (ordl K n).getD i 0 = (ordl K n)[i]'(by omega) := by
    rw [List.getD_eq_getElem?_getD, List.getElem?_eq_getElem (by omega)]
    rfl
  rw [hd]
  intro hm
  obtain ⟨j, hj, e⟩ := List.getElem_of_mem hm
  rw [List.getElem_take] at e
  rw [List.length_take] at hj
  have h3 := List.pairwise_iff_getElem.1 (ordl_nodup K n) j i (by omega) (by omega) (by omega)
  exact h3 e
theorem kv_map (f : Int → Int) (l : List Int) (z : Int) (h0 : 0 ≤ z) (h : z < l.length) : kv (l.map f) z = f (kv l z) := by
  unfold kv
  rw [List.getD_eq_getElem?_getD, List.getD_eq_getElem?_getD, List.getElem?_map, List.getElem?_eq_getElem (show z.toNat < l.length by omega)]
  rfl
def seenAt (O : List Int) (n i : Nat) : List Bool := (List.range n).map fun (j : Nat) => decide ((j : Int) ∈ O.take i)
theorem seenAt_len (O : List Int) (n i : Nat) : (seenAt O n i).length = n := by simp [seenAt]
theorem seenAt_zero (O : List Int) (n : Nat) : seenAt O n 0 = List.replicate n false := by
  unfold seenAt
  apply List.ext_getElem?
  intro j
  by_cases h : j < n <;> simp [h]
theorem seenAt_get {O : List Int} {n i j : Nat} (h : j < n) : rdOf false (seenAt O n i) (j : Int) = decide ((j : Int) ∈ O.take i) := by
  unfold rdOf seenAt
  rw [Int.toNat_natCast, List.getD_eq_getElem?_getD, List.getElem?_map, List.getElem?_range h]
  rfl
theorem seenAt_next {O : List Int} {n i z : Nat} (hi : i < O.length) (hz : O.getD i 0 = (z : Int)) (hzn : z < n) : (seenAt O n i).set z true = seenAt O n (i + 1) := by
  apply List.ext_getElem?
  intro j
  unfold seenAt
  rw [take_next hi, hz]
  by_cases h : j < n
  · by_cases e : z = j
    · subst e
      simp [h]
    · rw [List.getElem?_set_ne e]
      have e2 : ¬ j = z := fun x => e x.symm
      have e3 : ¬ (j : Int) = (z : Int) := by omega
      simp [h, e3]
  · rw [List.getElem?_eq_none (by simp; omega), List.getElem?_eq_none (by simp; omega)]
theorem rank_zero (l : List Int) : rankOf l 0 = ordl (kv l) l.length := by
  unfold rankOf
  rw [if_neg (by decide)]
theorem rank_pos (l : List Int) {k : Int} (h : 0 < k) : rankOf l k = topOf l k := by
  unfold rankOf
  rw [if_pos h]
theorem top_none (l : List Int) {k : Int} (h : k < 1) : topOf l k = [] := by
  unfold topOf
  rw [show k.toNat = 0 by omega, List.take_zero]
theorem rank_shift (l : List Int) (f : Int → Int) (c : Int) : rankOf (l.map (fun x => f x + c)) 0 = rankOf (l.map f) 0 := by
  rw [rank_zero, rank_zero, List.length_map, List.length_map]
  refine ordl_congr c fun z h0 h1 => ?_
  rw [kv_map _ _ _ h0 h1, kv_map _ _ _ h0 h1]
theorem rank_len (l : List Int) : (rankOf l 0).length = l.length := by rw [rank_zero, ordl_len]
end Go.Proofs.Ytfokcaillibajaa.Heads
