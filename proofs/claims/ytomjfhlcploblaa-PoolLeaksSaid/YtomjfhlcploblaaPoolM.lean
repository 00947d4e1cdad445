/- The laws' mod, and a pool made without tables. Conditions: none. -/
import Derived.Test.YtomjfhlcploblaaPoolK
namespace Go.Proofs.Ytomjfhlcploblaa.Pool
open Go.RowKit Go.Proofs.YtomjfhlcploblaaW.PrintWords Go.Proofs.YtomjfhlcploblaaW.PrintMore Go.Proofs.YtomjfhlcploblaaW.PrintLast
open Go.Proofs.Ytomjfhlcploblaa.PPoolKeeps
set_option linter.unusedVariables false
set_option linter.unusedSimpArgs false

theorem tmod_neg {a n : Int} (ha : a < 0) (hn : 0 < n) : Int.tmod a n = -((-a) % n) := by
  have h1 : Int.tmod (-(-a)) n = - Int.tmod (-a) n := Int.neg_tmod ..
  rw [Int.neg_neg] at h1
  rw [h1, Int.tmod_eq_emod_of_nonneg (by omega)]
theorem mod_f {a n : Int} (hn : 0 < n) (hn2 : n ≤ 4611686018427387904) : augurlaw06_mod.f a n = some (a % n) := by
  unfold augurlaw06_mod.f
  rw [if_neg (by omega)]
  by_cases ha : 0 ≤ a
  · rw [Int.tmod_eq_emod_of_nonneg ha, if_neg (by have := Int.emod_nonneg a (show n ≠ 0 by omega); omega)]
  · have h1 := tmod_neg (show a < 0 by omega) hn
    have h2 := Int.emod_nonneg (-a) (show n ≠ 0 by omega)
    have h3 := Int.emod_lt_of_pos (-a) hn
    have h4 := Int.emod_add_mul_ediv (-a) n
    rw [h1]
    generalize hr : (-a) % n = r at *
    generalize hq : (-a) / n = q at *
    have ea : a = -r + n * (-q) := by rw [Int.mul_neg]; omega
    by_cases hr0 : r = 0
    · rw [if_neg (by omega), ea, hr0]
      simp
    · rw [if_pos (by omega), w64 (by omega) (by omega), ea, Int.add_mul_emod_self_left]
      have e2 : -r = (n - r) + n * (-1) := by omega
      rw [e2, Int.add_mul_emod_self_left, Int.emod_eq_of_lt (by omega) (by omega)]
      congr 1
      omega
theorem mod_calls (a n : Int) (w : World) (hn : 0 < n) (hn2 : n ≤ 4611686018427387904) : Calls Try.prog 19 #[.int .i64 a, .int .i64 n] w (Quiet w (.int .i64 (a % n))) :=
  (augurlaw06_mod.calls a n (a % n) w (mod_f hn hn2)).mono (fun e w' ⟨h1, h2⟩ => ⟨h1, by obtain ⟨⟨j, hj⟩⟩ := h2; exact ⟨j, hj⟩⟩)
theorem long_calls (a : Int) (w : World) : Calls Try.prog 15 #[.int .i64 a] w (Quiet w (.bool (decide (a > 2147483647)))) :=
  (augurref00_Long.calls a _ w rfl).mono (fun e w' ⟨h1, h2⟩ => ⟨h1, by obtain ⟨⟨j, hj⟩⟩ := h2; exact ⟨j, hj⟩⟩)

def nB (b : Int) : Nat := 2 + (b % 16).toNat
def nZ (z : Int) : Nat := 1 + (z % 6).toNat
theorem nB_le (b : Int) : 2 ≤ nB b ∧ nB b ≤ 17 := by unfold nB; omega
theorem nZ_le (z : Int) : 1 ≤ nZ z ∧ nZ z ≤ 6 := by unfold nZ; omega
theorem init23_fits (b z : Int) : Fits 2 3 (nB b) (nZ z) := by
  have h1 := nB_le b
  have h2 := nZ_le z
  exact ⟨by omega, by omega, by omega, by omega, by omega, by omega, by omega, by omega⟩
def Made0 (n k : Nat) (w : World) (e : Ending) (w' : World) : Prop :=
  ∃ d, e = .returned (.tuple #[.pointer (some ⟨d.p, 0, none⟩), .slice none 0 0, .int .i64 (n : Int), .int .i64 (k : Int)]) ∧ At w' d (init 2 3 n k) ∧ (∀ i, d.own i → w.heap.size ≤ i) ∧ Below w.heap.size w w'
set_option maxHeartbeats 8000000 in
set_option maxRecDepth 100000 in
theorem made0_calls (b z : Int) (w : World) : Calls Try.prog 16 #[.int .i64 b, .int .i64 z, .int .i64 0] w (Made0 (nB b) (nZ z) w) := by
  have hm1 := fun w1 => mod_calls b 16 w1 (by omega) (by omega)
  have hm2 := fun w1 => mod_calls z 6 w1 (by omega) (by omega)
  have e1 : IntKind.i64.wrap (2 + b % 16) = (nB b : Int) := by rw [IntWalk.i64_in _ (by omega)]; unfold nB; omega
  have e2 : IntKind.i64.wrap (1 + z % 6) = (nZ z : Int) := by rw [IntWalk.i64_in _ (by omega)]; unfold nZ; omega
  have hnew := fun w1 => new_calls 2 3 (nB b : Int) (nZ z : Int) w1
  have hfit := Aside0.mk (init23_fits b z)
  have e3 : ((nB b : Int) != (nB b : Int)) = false := by simp
  generalize nB b = n at *
  generalize nZ z = k at *
  have HM1 := Aside0.mk hm1
  have HM2 := Aside0.mk hm2
  have HNEW := Aside0.mk hnew
  clear hm1 hm2 hnew
  go_enter Try.func16, Try.ntmps16
  go_wp2_with fail
  refine (HM1.out _).mono ?_
  rintro e w1 ⟨rfl, j1, rfl⟩
  go_wp2_with fail
  refine (HM2.out _).mono ?_
  rintro e w1 ⟨rfl, j2, rfl⟩
  go_wp2_with fail
  refine (HNEW.out _).mono ?_
  rintro e w1 (⟨_, d, rfl, hA, hown, hB⟩ | ⟨hno, _⟩)
  rotate_left
  · exact absurd hfit.out hno
  simp only [Int.toNat_natCast] at hA
  have hA' : At w1 d (init 2 3 n k) := hA
  have hB' : Below w.heap.size w w1 := by
    have := below_then (pw_below_drewN (Below.refl w.heap.size w) (j1 + j2)) (Nat.le_refl _) hB
    exact this
  have hL := left_calls d (init 2 3 n k) w1 hA'
  rw [init_left] at hL
  have HA := Aside0.mk hA'
  have HB := Aside0.mk hB'
  have HOWN := Aside0.mk hown
  clear hA hA' hB hB' hown
  go_wp2_with fail
  refine hL.mono ?_
  rintro e w2 ⟨rfl, j3, rfl⟩
  go_wp2_with fail
  go_loopg [14, 15] 0 (fun g v14 v15 wr => v14 = .slice none 0 0 ∧ v15 = .int .i64 0 ∧ wr = w1.drewN j3)
  case atStart => exact ⟨rfl, rfl, rfl⟩
  case round =>
    obtain ⟨rfl, rfl, rfl⟩ := hrel
    go_wp2_with fail
    refine bodyPost_ret (v := .tuple #[.pointer (some ⟨d.p, 0, none⟩), .slice none 0 0, .int .i64 (n : Int), .int .i64 (k : Int)]) (by simp [results, Try.results16, go_sem, asAddr, Result.andThen]) rfl ?_
    exact ⟨d, rfl, HA.out.drewN _, HOWN.out, pw_below_drewN HB.out _⟩
#print axioms made0_calls
end Go.Proofs.Ytomjfhlcploblaa.Pool
