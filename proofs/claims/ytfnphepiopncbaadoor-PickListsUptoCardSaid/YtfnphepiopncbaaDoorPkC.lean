/- The document's answer of fix, said plainly: what the printed functions compute. Conditions: how great the numbers are. -/
import Derived.Test.YtfnphepiopncbaaDoorPkB
import Derived.Test.YtfnphepiopncbaaDoorPPickChoosesx6
namespace Go.Proofs.YtfnphepiopncbaaDoor.Pick
open Go.RowKit Go.Proofs.YtfnphepiopncbaaDoorW.PrintWords Go.Proofs.YtfnphepiopncbaaDoor.Srt
open Go.Proofs.YtfnphepiopncbaaDoor.PPickChooses (S45 z45 k45 k45_mk rd_T45)
open Go.Proofs.YtfnphepiopncbaaDoor.PPickChooses hiding S45 z45 k45 k45_mk rd_T45
open Go.Proofs.YtfnphepiopncbaaDoor.Heads (kI seqOf kv)
set_option linter.unusedVariables false
set_option linter.unusedSimpArgs false

theorem w64 {x : Int} (h : -4611686018427387904 ≤ x ∧ x ≤ 4611686018427387904) : wrap64 x = x := by unfold wrap64; omega
theorem tdiv_neg_of {n b : Int} (hn : 0 ≤ n) (hb : 0 < b) : Int.tdiv (-n) b = -(n / b) := by
  rw [Int.neg_tdiv, Int.tdiv_eq_ediv_of_nonneg hn]
theorem mul_ediv_bounds {n b : Int} (hb : 0 < b) : b * (n / b) ≤ n ∧ n < b * (n / b) + b := by
  have h1 := Int.mul_ediv_add_emod n b
  have h2 := Int.emod_nonneg n (by omega : b ≠ 0)
  have h3 := Int.emod_lt_of_pos n hb
  omega
theorem ediv_small {n b : Int} (hn : 0 ≤ n) (hb : 0 < b) : 0 ≤ n / b ∧ n / b ≤ n := ⟨Int.ediv_nonneg hn (by omega), Int.ediv_le_self b hn⟩
theorem Div_f {a b : Int} (ha : -1152921504606846976 ≤ a ∧ a ≤ 1152921504606846976) (hb : 0 < b ∧ b ≤ 1152921504606846976) : augurref01_Div.f a b = some (a / b) := by
  unfold augurref01_Div.f
  rw [if_neg (by omega), if_neg (by omega)]
  by_cases h0 : 0 ≤ a
  · have hs := ediv_small h0 hb.1
    have hm := mul_ediv_bounds (n := a) hb.1
    have hc : a / b * b = b * (a / b) := Int.mul_comm _ _
    have hq := Int.mul_nonneg (Int.le_of_lt hb.1) hs.1
    rw [Int.tdiv_eq_ediv_of_nonneg h0, w64 (x := a / b) (by omega), hc, w64 (x := b * (a / b)) (by omega), if_neg (by omega)]
  · obtain ⟨n, rfl⟩ : ∃ n, a = -n := ⟨-a, by omega⟩
    have hn : 0 ≤ n := by omega
    have hs := ediv_small hn hb.1
    have hm := mul_ediv_bounds (n := n) hb.1
    have hm2 := mul_ediv_bounds (n := -n) hb.1
    have hq := Int.mul_nonneg (Int.le_of_lt hb.1) hs.1
    have hc : -(n / b) * b = -(b * (n / b)) := by rw [Int.neg_mul, Int.mul_comm]
    rw [tdiv_neg_of hn hb.1, w64 (x := -(n / b)) (by omega), hc, w64 (x := -(b * (n / b))) (by omega)]
    -- the two quotients: -n / b is -(n / b), or one less
    have e1 : b * (-n / b) - -(b * (n / b)) = b * (-n / b - -(n / b)) := by rw [Int.mul_sub, Int.mul_neg]
    obtain ⟨d, hd⟩ : ∃ d, -n / b - -(n / b) = d := ⟨_, rfl⟩
    rw [hd] at e1
    have hd1 : d ≤ 0 := by
      rcases Int.lt_or_le 0 d with h | h
      · have := Int.mul_le_mul_of_nonneg_left (show (1 : Int) ≤ d by omega) (Int.le_of_lt hb.1)
        omega
      · exact h
    have hd2 : -1 ≤ d := by
      rcases Int.lt_or_le d (-1) with h | h
      · have := Int.mul_le_mul_of_nonneg_left (show d ≤ -2 by omega) (Int.le_of_lt hb.1)
        omega
      · exact h
    have hd3 : d = 0 ∨ d = -1 := by omega
    rcases hd3 with h | h
    · rw [h, Int.mul_zero] at e1
      rw [if_neg (by omega)]
      congr 1
      omega
    · rw [h] at e1
      rw [if_pos (by omega), w64 (by omega)]
      congr 1
      omega
theorem Clamp_f (a : Int) (k : Nat) : augurref01_Clamp.f (k + 1) a 16777216 = some (wide a) := by
  unfold augurref01_Clamp.f
  rw [if_neg (by decide)]
  simp only [augurref01_Clamp.j0]
  have e : wrap64 (-16777216) = -16777216 := w64 (by omega)
  rw [e]
  unfold wide clampf
  by_cases h1 : a > 16777216
  · rw [if_pos h1, if_neg (by omega), if_pos (by omega)]
  · rw [if_neg h1]
    by_cases h2 : a < -16777216
    · rw [if_pos h2, if_pos (by omega)]
    · rw [if_neg h2, if_neg (by omega), if_neg (by omega)]
theorem tmod2 (a : Int) : Int.tmod a 2 = if 0 ≤ a then a % 2 else -((-a) % 2) := by
  split
  · rename_i h
    exact Int.tmod_eq_emod_of_nonneg h
  · have e : a = -(-a) := by omega
    rw [e, Int.neg_tmod, Int.tmod_eq_emod_of_nonneg (by omega)]
    simp
theorem tdiv2 (a : Int) : Int.tdiv a 2 = if 0 ≤ a then a / 2 else -((-a) / 2) := by
  split
  · rename_i h
    exact Int.tdiv_eq_ediv_of_nonneg h
  · have e : a = -(-a) := by omega
    rw [e, tdiv_neg_of (by omega) (by omega)]
    simp
theorem half_f {a : Int} (h : -1152921504606846976 ≤ a ∧ a ≤ 1152921504606846976) : augurref01_half.f a = some (a / 2) := by
  unfold augurref01_half.f
  rw [tmod2, w64 (x := a - 1) (by omega), tdiv2, tdiv2]
  by_cases h0 : 0 ≤ a
  · rw [if_pos h0, if_pos h0, if_neg (by omega), w64 (by omega)]
  · rw [if_neg h0, if_neg h0]
    by_cases h1 : -(-a % 2) < 0
    · rw [if_pos h1, if_neg (by omega), w64 (by omega)]
      congr 1
      omega
    · rw [if_neg h1, w64 (by omega)]
      congr 1
      omega
theorem shf_half (v : Int) (t : Nat) : shf v (t + 1) = (v / 2 ^ t + 1) / 2 := by
  unfold shf
  rw [if_neg (by omega), Nat.add_sub_cancel]
  have e : v / 2 ^ (t + 1) = v / 2 ^ t / 2 := by
    rw [Int.pow_succ, Int.ediv_ediv_of_nonneg (by exact Int.pow_nonneg (by omega))]
  rw [e]
  omega
def Ev {α : Type} (f : Nat → Option α) (r : α) : Prop := ∃ K, ∀ k, K ≤ k → f k = some r
theorem pow_half (v : Int) (t : Nat) : v / 2 ^ t / 2 = v / 2 ^ (t + 1) := by
  rw [Int.pow_succ, Int.ediv_ediv_of_nonneg (by exact Int.pow_nonneg (by omega))]
theorem half_range2 {v : Int} (h : -1152921504606846976 ≤ v ∧ v ≤ 1152921504606846976) (t : Nat) : -1152921504606846976 ≤ v / 2 ^ t ∧ v / 2 ^ t ≤ 1152921504606846976 := by
  induction t with
  | zero => simpa using h
  | succ t ih => rw [← pow_half]; omega
theorem Shift_l {v : Int} (h : -1152921504606846976 ≤ v ∧ v ≤ 1152921504606846976) (s : Nat) (hs : s ≤ 61) : ∀ m t : Nat, t + m = s → ∀ k, m + 1 ≤ k → augurref01_Shift.l0 k (v / 2 ^ t) ((s + 1 : Nat) : Int) ((t + 1 : Nat) : Int) = some (shf v (s + 1)) := by
  intro m
  induction m with
  | zero =>
    intro t ht k hk
    obtain rfl : t = s := by omega
    obtain ⟨k, rfl⟩ : ∃ k', k = k' + 1 := ⟨k - 1, by omega⟩
    have hr := half_range2 h t
    simp only [augurref01_Shift.l0]
    rw [if_neg (by omega), shf_half, tmod2, tdiv2, half_f hr]
    generalize v / 2 ^ t = x at hr
    show (if (if 0 ≤ x then x % 2 else -(-x % 2)) = 0 then some (wrap64 (if 0 ≤ x then x / 2 else -(-x / 2))) else some (wrap64 (x / 2 + 1))) = some ((x + 1) / 2)
    by_cases h0 : 0 ≤ x
    · rw [if_pos h0, if_pos h0]
      by_cases h1 : x % 2 = 0
      · rw [if_pos h1, w64 (by omega)]
        congr 1
        omega
      · rw [if_neg h1, w64 (by omega)]
        congr 1
        omega
    · rw [if_neg h0, if_neg h0]
      by_cases h1 : -(-x % 2) = 0
      · rw [if_pos h1, w64 (by omega)]
        congr 1
        omega
      · rw [if_neg h1, w64 (by omega)]
        congr 1
        omega
  | succ m ih =>
    intro t ht k hk
    obtain ⟨k, rfl⟩ : ∃ k', k = k' + 1 := ⟨k - 1, by omega⟩
    have hr := half_range2 h t
    simp only [augurref01_Shift.l0]
    rw [if_pos (by omega), if_pos (by omega), half_f hr, pow_half]
    show augurref01_Shift.l0 k (v / 2 ^ (t + 1)) _ _ = _
    have e : wrap64 (((t + 1 : Nat) : Int) + 1) = ((t + 1 + 1 : Nat) : Int) := by rw [w64 (by omega)]; omega
    rw [e]
    exact ih (t + 1) (by omega) k (by omega)
theorem Shift_f {v : Int} (h : -1152921504606846976 ≤ v ∧ v ≤ 1152921504606846976) (s : Nat) (hs : s ≤ 62) (k : Nat) (hk : s + 1 ≤ k) : augurref01_Shift.f k v (s : Int) = some (shf v s) := by
  unfold augurref01_Shift.f
  cases s with
  | zero => rw [if_pos (by omega)]; rfl
  | succ s =>
    rw [if_neg (by omega)]
    have := Shift_l h s (by omega) s 0 (by omega) k (by omega)
    simpa using this
#print axioms Shift_f
end Go.Proofs.YtfnphepiopncbaaDoor.Pick
