/- bits.Mul64, draw.Below; fix.Clamp, fix.Div; pick.Check. Conditions: none. -/
import Derived.Test.YtfnphepiopncbaaDoorPickA
namespace Go.Proofs.YtfnphepiopncbaaDoor.Pick
open Go.RowKit Go.Proofs.YtfnphepiopncbaaDoorW.PrintWords Go.Proofs.YtfnphepiopncbaaDoorW.PrintLast Go.Proofs.YtfnphepiopncbaaDoorW.PrintMore
open Go.Proofs.YtfnphepiopncbaaDoor.PPickSound (bits_Mul64.f bits_Mul64.calls fix_Clamp.f fix_Clamp.calls fix_Div.f fix_Div.calls)
attribute [local go_sem] max2_int min2_int max_two min_two max_three min_three max_four min_four
set_option linter.unusedVariables false
set_option linter.unusedSimpArgs false

theorem u64_low (n : Int) : bits .and .u64 n 4294967295 = n % 4294967296 := by
  have h1 : (BitVec.ofInt 64 4294967295).toNat = 2 ^ 32 - 1 := by decide
  have key : (BitVec.ofInt 64 n &&& BitVec.ofInt 64 4294967295).toNat = (n % ((2 ^ 64 : Nat) : Int)).toNat % 2 ^ 32 := by
    rw [BitVec.toNat_and, BitVec.toNat_ofInt, h1, Nat.and_two_pow_sub_one_eq_mod]
  show IntKind.u64.wrap ((BitVec.ofInt 64 n &&& BitVec.ofInt 64 4294967295).toNat : Nat) = n % 4294967296
  rw [key, u64_wrap]
  omega
theorem half_mul {a b : Int} (a0 : 0 ≤ a) (a1 : a ≤ 4294967295) (b0 : 0 ≤ b) (b1 : b ≤ 4294967295) : 0 ≤ a * b ∧ a * b ≤ 18446744065119617025 :=
  ⟨Int.mul_nonneg a0 b0, by have h : a * b ≤ (4294967295 : Int) * 4294967295 := Int.mul_le_mul a1 b1 b0 (by omega); omega⟩
theorem mul64_is (u n : Int) (hu : 0 ≤ u ∧ u < 18446744073709551616) (hn : 0 ≤ n ∧ n < 18446744073709551616) : bits_Mul64.f u n = some (u * n / 18446744073709551616, u * n % 18446744073709551616) := by
  obtain ⟨a1, ha1⟩ : ∃ a1, u / 4294967296 = a1 := ⟨_, rfl⟩
  obtain ⟨a0, ha0⟩ : ∃ a0, u % 4294967296 = a0 := ⟨_, rfl⟩
  obtain ⟨b1, hb1⟩ : ∃ b1, n / 4294967296 = b1 := ⟨_, rfl⟩
  obtain ⟨b0, hb0⟩ : ∃ b0, n % 4294967296 = b0 := ⟨_, rfl⟩
  have eu : u = a1 * 4294967296 + a0 := by omega
  have en : n = b1 * 4294967296 + b0 := by omega
  have hun : u * n = (a1 * b1) * 18446744073709551616 + (a1 * b0 + a0 * b1) * 4294967296 + a0 * b0 := by
    have h1 : u * n = (a1 * 4294967296 + a0) * (b1 * 4294967296 + b0) := by rw [← eu, ← en]
    have h2 : a1 * 4294967296 * (b1 * 4294967296) = (a1 * b1) * 18446744073709551616 := by
      rw [Int.mul_assoc, Int.mul_left_comm (4294967296 : Int) b1, ← Int.mul_assoc]
      rfl
    have h3 : a1 * 4294967296 * b0 = (a1 * b0) * 4294967296 := by rw [Int.mul_assoc, Int.mul_comm (4294967296 : Int) b0, ← Int.mul_assoc]
    have h4 : a0 * (b1 * 4294967296) = (a0 * b1) * 4294967296 := by rw [← Int.mul_assoc]
    rw [h1, Int.add_mul, Int.mul_add, Int.mul_add, h2, h3, h4]
    omega
  unfold bits_Mul64.f
  simp only [u64_low, u64_wrap]
  rw [ha1, ha0, hb1, hb0, hun]
  have p11 := half_mul (a := a1) (b := b1) (by omega) (by omega) (by omega) (by omega)
  have p10 := half_mul (a := a1) (b := b0) (by omega) (by omega) (by omega) (by omega)
  have p01 := half_mul (a := a0) (b := b1) (by omega) (by omega) (by omega) (by omega)
  have p00 := half_mul (a := a0) (b := b0) (by omega) (by omega) (by omega) (by omega)
  generalize a1 * b1 = x11 at *
  generalize a1 * b0 = x10 at *
  generalize a0 * b1 = x01 at *
  generalize a0 * b0 = x00 at *
  congr 2
  omega
/-- u as a number below n. -/
def belowf (u n : Int) : Int := u * n / 18446744073709551616
theorem below_lt (u n : Int) (hu : 0 ≤ u ∧ u < 18446744073709551616) (hn : 0 < n) : 0 ≤ belowf u n ∧ belowf u n < n := by
  unfold belowf
  have h := Int.mul_nonneg hu.1 (Int.le_of_lt hn)
  constructor
  · omega
  · rw [Int.ediv_lt_iff_lt_mul (by decide), Int.mul_comm n]
    exact Int.mul_lt_mul_of_pos_right hu.2 hn
theorem arr_at0 (a b : Int) (W : World) : Sem.run Tryd.prog (Instr.index 72 (.agg #[.int .u64 a, .int .u64 b]) (.int .i64 0)) W = .ok (.int .u64 a) W := by kernel_rfl
set_option maxHeartbeats 1000000 in
theorem prod_calls (u n : Int) (w : World) (hu : 0 ≤ u ∧ u < 18446744073709551616) (hn : 0 ≤ n ∧ n < 18446744073709551616) : Calls Tryd.prog 46 #[.int .u64 u, .int .u64 n] w (fun e w' => e = .returned (.agg #[.int .u64 (u * n / 18446744073709551616), .int .u64 (u * n % 18446744073709551616)]) ∧ Below w.heap.size w w') := by
  have HM : Aside0 (∀ W, Calls Tryd.prog 67 #[.int .u64 u, .int .u64 n] W (fun e w' => e = .returned (.tuple #[.int .u64 (u * n / 18446744073709551616), .int .u64 (u * n % 18446744073709551616)]) ∧ Drawn0 W w')) := ⟨fun W => bits_Mul64.calls u n _ _ W (mul64_is u n hu hn)⟩
  clear hu hn
  go_enter Tryd.func46, Tryd.ntmps46
  go_wp2_with (go_at_call 67; (with_reducible refine Calls.mono (HM.out _) ?_); rintro e w2 ⟨rfl, hd⟩; obtain ⟨⟨nd, hw6⟩⟩ := hd; subst hw6)
  obtain ⟨x, hx⟩ : ∃ x, u * n / 18446744073709551616 = x := ⟨_, rfl⟩
  obtain ⟨y, hy⟩ : ∃ y, u * n % 18446744073709551616 = y := ⟨_, rfl⟩
  rw [hx, hy]
  clear HM hx hy
  refine bodyPost_ret (v := .agg #[.int .u64 x, .int .u64 y]) (by simp [results, Tryd.f46, go_sem]) rfl ⟨rfl, ?_⟩
  exact (((((pw_below_drewN (((Below.refl _ _).alloc (Nat.le_refl _) _).alloc (by simp) _) nd).setCell (p := ⟨w.heap.size + 1, 0, none⟩) (by simp) _).setCell (p := ⟨w.heap.size + 1, 1, none⟩) (by simp) _).setCell (p := ⟨w.heap.size, 0, none⟩) (by simp) _).setCell (p := ⟨w.heap.size, 1, none⟩) (by simp) _)
#print axioms prod_calls
set_option maxHeartbeats 1000000 in
theorem below_calls (u n : Int) (w : World) (hu : 0 ≤ u ∧ u < 18446744073709551616) (hn : 0 ≤ n ∧ n < 18446744073709551616) : Calls Tryd.prog 28 #[.int .u64 u, .int .u64 n] w (fun e w' => e = .returned (.int .u64 (belowf u n)) ∧ Below w.heap.size w w') := by
  have HM := Aside0.mk (prod_calls u n w hu hn)
  have hx := arr_at0 (u * n / 18446744073709551616) (u * n % 18446744073709551616)
  clear hu hn
  go_enter Tryd.func28, Tryd.ntmps28
  go_wp2_with (go_at_call 46; (with_reducible refine Calls.mono HM.out ?_); rintro e w2 ⟨rfl, hb⟩)
  go_ret
  exact ⟨rfl, hb⟩
#print axioms below_calls

/-! ### Clamp, Div -/
def clampf (v m : Int) : Int := if v < -m then -m else if m < v then m else v
theorem clamp_calls (v m : Int) (w : World) (hm : 0 ≤ m ∧ m ≤ 9223372036854775807) : Calls Tryd.prog 54 #[.int .i64 v, .int .i64 m] w (fun e w' => e = .returned (.int .i64 (clampf v m)) ∧ Below w.heap.size w w') := by
  refine fix_Clamp.calls v m _ w ?_
  have e1 : mx m 0 = m := by unfold mx; split <;> omega
  have e2 : wrap64 (-m) = -m := by unfold wrap64; omega
  unfold fix_Clamp.f
  rw [e1, e2]
  congr 1
  unfold clampf mx mn
  repeat' split
  all_goals omega
theorem div_calls (a b : Int) (w : World) (ha : -9223372036854775807 ≤ a ∧ a ≤ 9223372036854775807) (hb : 0 < b) : Calls Tryd.prog 55 #[.int .i64 a, .int .i64 b] w (Says (.int .i64 (a / b)) w) := by
  have hf : fix_Div.f a b = some (a / b) := by
    unfold fix_Div.f
    rw [if_neg (by omega), if_neg (by omega)]
    have h1 : -9223372036854775807 ≤ a.tdiv b ∧ a.tdiv b ≤ 9223372036854775807 := by
      have h2 := Int.natAbs_tdiv_le_natAbs a b
      omega
    have h3 : wrap64 (a.tdiv b) = a.tdiv b := by unfold wrap64; omega
    rw [h3]
    have h4 := Int.mul_tdiv_add_tmod a b
    have h5 := Int.tmod_lt_of_pos a hb
    have h6 := Int.tmod_lt_of_pos (-a) hb
    rw [Int.neg_tmod] at h6
    split
    · rename_i hneg
      have h7 : wrap64 (a.tdiv b - 1) = a.tdiv b - 1 := by unfold wrap64; omega
      rw [h7, ((Int.ediv_emod_unique (a := a) (q := a.tdiv b - 1) (r := a.tmod b + b) hb).2 ⟨by rw [Int.mul_sub, Int.mul_one]; omega, by omega, by omega⟩).1]
    · rename_i hneg
      rw [((Int.ediv_emod_unique (a := a) (q := a.tdiv b) (r := a.tmod b) hb).2 ⟨by omega, by omega, by omega⟩).1]
  refine (fix_Div.calls a b _ w hf).mono ?_
  rintro e w' ⟨rfl, hd⟩
  obtain ⟨⟨n, rfl⟩⟩ := hd
  exact ⟨rfl, n, rfl⟩

/-! ### Check -/
theorem within_yes (n lo hi : Int) (w : World) (h1 : lo ≤ n) (h2 : n ≤ hi) : Calls Tryd.prog 48 #[.int .i64 n, .int .i64 lo, .int .i64 hi] w fun e w' => e = .returned (.bool true) ∧ w = w' := by
  go_enter Tryd.func48, Tryd.ntmps48
  go_wp2
  go_ret
  exact ⟨rfl, rfl⟩
theorem within_lo (n lo hi : Int) (w : World) (h1 : n < lo) : Calls Tryd.prog 48 #[.int .i64 n, .int .i64 lo, .int .i64 hi] w fun e w' => e = .returned (.bool false) ∧ w = w' := by
  go_enter Tryd.func48, Tryd.ntmps48
  go_wp2
  go_ret
  exact ⟨rfl, rfl⟩
theorem within_hi (n lo hi : Int) (w : World) (h1 : lo ≤ n) (h2 : hi < n) : Calls Tryd.prog 48 #[.int .i64 n, .int .i64 lo, .int .i64 hi] w fun e w' => e = .returned (.bool false) ∧ w = w' := by
  have e : decide (n ≤ hi) = false := by simp; omega
  go_enter Tryd.func48, Tryd.ntmps48
  go_wp2
  go_ret
  exact ⟨rfl, rfl⟩
theorem within_no (n lo hi : Int) (w : World) (h : n < lo ∨ hi < n) : Calls Tryd.prog 48 #[.int .i64 n, .int .i64 lo, .int .i64 hi] w fun e w' => e = .returned (.bool false) ∧ w = w' := by
  by_cases h1 : n < lo
  · exact within_lo n lo hi w h1
  · exact within_hi n lo hi w (by omega) (by omega)
/-- The parameters. -/
structure Par where
  T : Int
  K : Int
  P : Int
  N : Int
  S : Int
def Par.v (p : Par) : Value := .agg #[.int .i64 p.T, .int .i64 p.K, .int .i64 p.P, .int .i64 p.N, .int .u64 p.S]
def Par.ok (p : Par) : Prop := (0 ≤ p.T ∧ p.T ≤ 4096) ∧ (0 ≤ p.K ∧ p.K ≤ 64) ∧ (1 ≤ p.P ∧ p.P ≤ 1000) ∧ (64 ≤ p.N ∧ p.N ≤ 1024)
instance (p : Par) : Decidable p.ok := by unfold Par.ok; infer_instance
set_option maxHeartbeats 2000000 in
theorem check_ok (p : Par) (w : World) (h : p.ok) : Calls Tryd.prog 30 #[p.v] w fun e w' => e = .returned (.int .i64 0) ∧ Below w.heap.size w w' := by
  obtain ⟨T, K, P, N, S⟩ := p
  obtain ⟨h1, h2, h3, h4⟩ := h
  unfold Par.v
  dsimp only at *
  go_enter Tryd.func30, Tryd.ntmps30
  go_wp2_with (go_at_call 48; ((refine (within_yes _ _ _ _ ?_ ?_).mono ?_) <;> try omega); rintro e w' ⟨rfl, rfl⟩)
  go_ret
  exact ⟨rfl, (Below.refl _ _).alloc (Nat.le_refl _) _⟩
set_option maxHeartbeats 2000000 in
theorem check_no (p : Par) (w : World) (h : ¬ p.ok) : Calls Tryd.prog 30 #[p.v] w fun e w' => e = .returned (.int .i64 100) ∧ Below w.heap.size w w' := by
  obtain ⟨T, K, P, N, S⟩ := p
  have h : (T < 0 ∨ 4096 < T) ∨ (K < 0 ∨ 64 < K) ∨ (P < 1 ∨ 1000 < P) ∨ (N < 64 ∨ 1024 < N) := by
    unfold Par.ok at h
    dsimp only at h
    omega
  unfold Par.v
  dsimp only
  by_cases c1 : T < 0 ∨ 4096 < T
  · clear h
    go_enter Tryd.func30, Tryd.ntmps30
    go_wp2_with (go_at_call 48; (first | ((refine (within_no _ _ _ _ ?_).mono ?_) <;> first | assumption | skip)); rintro e w' ⟨rfl, rfl⟩)
    go_ret
    exact ⟨rfl, (Below.refl _ _).alloc (Nat.le_refl _) _⟩
  · by_cases c2 : K < 0 ∨ 64 < K
    · have d1 : 0 ≤ T ∧ T ≤ 4096 := by omega
      clear h c1
      go_enter Tryd.func30, Tryd.ntmps30
      go_wp2_with fail
      refine (within_yes _ _ _ _ d1.1 d1.2).mono ?_
      rintro e w' ⟨rfl, rfl⟩
      go_wp2_with fail
      refine (within_no _ _ _ _ c2).mono ?_
      rintro e w' ⟨rfl, rfl⟩
      go_wp2_with fail
      go_ret
      exact ⟨rfl, (Below.refl _ _).alloc (Nat.le_refl _) _⟩
    · by_cases c3 : P < 1 ∨ 1000 < P
      · have d1 : 0 ≤ T ∧ T ≤ 4096 := by omega
        have d2 : 0 ≤ K ∧ K ≤ 64 := by omega
        clear h c1 c2
        go_enter Tryd.func30, Tryd.ntmps30
        go_wp2_with fail
        refine (within_yes _ _ _ _ d1.1 d1.2).mono ?_
        rintro e w' ⟨rfl, rfl⟩
        go_wp2_with fail
        refine (within_yes _ _ _ _ d2.1 d2.2).mono ?_
        rintro e w' ⟨rfl, rfl⟩
        go_wp2_with fail
        refine (within_no _ _ _ _ c3).mono ?_
        rintro e w' ⟨rfl, rfl⟩
        go_wp2_with fail
        go_ret
        exact ⟨rfl, (Below.refl _ _).alloc (Nat.le_refl _) _⟩
      · have d1 : 0 ≤ T ∧ T ≤ 4096 := by omega
        have d2 : 0 ≤ K ∧ K ≤ 64 := by omega
        have d3 : 1 ≤ P ∧ P ≤ 1000 := by omega
        have c4 : N < 64 ∨ 1024 < N := by omega
        clear h c1 c2 c3
        go_enter Tryd.func30, Tryd.ntmps30
        go_wp2_with fail
        refine (within_yes _ _ _ _ d1.1 d1.2).mono ?_
        rintro e w' ⟨rfl, rfl⟩
        go_wp2_with fail
        refine (within_yes _ _ _ _ d2.1 d2.2).mono ?_
        rintro e w' ⟨rfl, rfl⟩
        go_wp2_with fail
        refine (within_yes _ _ _ _ d3.1 d3.2).mono ?_
        rintro e w' ⟨rfl, rfl⟩
        go_wp2_with fail
        refine (within_no _ _ _ _ c4).mono ?_
        rintro e w' ⟨rfl, rfl⟩
        go_wp2_with fail
        go_ret
        exact ⟨rfl, (Below.refl _ _).alloc (Nat.le_refl _) _⟩
theorem check_calls (p : Par) (w : World) : Calls Tryd.prog 30 #[p.v] w fun e w' => e = .returned (.int .i64 (if p.ok then 0 else 100)) ∧ Below w.heap.size w w' := by
  by_cases h : p.ok
  · rw [if_pos h]; exact check_ok p w h
  · rw [if_neg h]; exact check_no p w h
#print axioms check_calls
end Go.Proofs.YtfnphepiopncbaaDoor.Pick
