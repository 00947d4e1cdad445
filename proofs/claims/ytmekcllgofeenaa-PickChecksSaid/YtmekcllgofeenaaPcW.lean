/- The walk of PickChecks: it answers true. Conditions: none. -/
import Derived.Test.YtmekcllgofeenaaProg
import Derived.WalkKit
import Derived.WalkLawsBesides
import Derived.Outline
import Derived.RowKit3
import Derived.Below
import Derived.Lib.Hide
namespace Go.Proofs.Ytmekcllgofeenaa.PcW
open Go.RowKit
set_option linter.unusedVariables false

theorem bcell {W w1 : World} (hb : Below W.heap.size W w1) : (∀ b o, b < W.heap.size → w1.cell? ⟨b, o, none⟩ = W.cell? ⟨b, o, none⟩) ∧ (∀ b o, b < W.heap.size → w1.frozen? ⟨b, o, none⟩ = W.frozen? ⟨b, o, none⟩) :=
  ⟨fun b o h => hb.cell (p := ⟨b, o, none⟩) h, fun b o h => hb.frozen (p := ⟨b, o, none⟩) h⟩
theorem below_then {B : Nat} {w w1 w2 : World} (h : Below B w w1) (hB : B ≤ w1.heap.size) (k : Below w1.heap.size w1 w2) : Below B w w2 :=
  h.trans ⟨k.os, k.tape, k.output, k.size, fun i hi => k.block i (Nat.lt_of_lt_of_le hi hB)⟩

theorem within_yes (n lo hi : Int) (w : World) (h1 : lo ≤ n) (h2 : n ≤ hi) : Calls Try.prog 32 #[.int .i64 n, .int .i64 lo, .int .i64 hi] w fun e w' => e = .returned (.bool true) ∧ w = w' := by
  go_enter Try.func32, Try.ntmps32
  go_wp2
  go_ret
  exact ⟨rfl, rfl⟩

theorem within_lo (n lo hi : Int) (w : World) (h1 : n < lo) : Calls Try.prog 32 #[.int .i64 n, .int .i64 lo, .int .i64 hi] w fun e w' => e = .returned (.bool false) ∧ w = w' := by
  go_enter Try.func32, Try.ntmps32
  go_wp2
  go_ret
  exact ⟨rfl, rfl⟩

theorem within_hi (n lo hi : Int) (w : World) (h1 : lo ≤ n) (h2 : hi < n) : Calls Try.prog 32 #[.int .i64 n, .int .i64 lo, .int .i64 hi] w fun e w' => e = .returned (.bool false) ∧ w = w' := by
  have e : decide (n ≤ hi) = false := by simp; omega
  go_enter Try.func32, Try.ntmps32
  go_wp2
  go_ret
  exact ⟨rfl, rfl⟩

theorem within_no (n lo hi : Int) (w : World) (h : n < lo ∨ hi < n) : Calls Try.prog 32 #[.int .i64 n, .int .i64 lo, .int .i64 hi] w fun e w' => e = .returned (.bool false) ∧ w = w' := by
  by_cases h1 : n < lo
  · exact within_lo n lo hi w h1
  · exact within_hi n lo hi w (by omega) (by omega)

set_option maxHeartbeats 2000000 in
theorem check_ok (T K P N S : Int) (w : World) (h1 : 0 ≤ T ∧ T ≤ 4096) (h2 : 0 ≤ K ∧ K ≤ 64) (h3 : 1 ≤ P ∧ P ≤ 1000) (h4 : 64 ≤ N ∧ N ≤ 1024) :
    Calls Try.prog 10 #[.agg #[.int .i64 T, .int .i64 K, .int .i64 P, .int .i64 N, .int .u64 S]] w fun e w' => e = .returned (.int .i64 0) ∧ Below w.heap.size w w' := by
  go_enter Try.func10, Try.ntmps10
  go_wp2_with (go_at_call 32; ((refine (within_yes _ _ _ _ ?_ ?_).mono ?_) <;> try omega); rintro e w' ⟨rfl, rfl⟩)
  go_ret
  exact ⟨rfl, (Below.refl _ _).alloc (Nat.le_refl _) _⟩

set_option maxHeartbeats 2000000 in
theorem check_no (T K P N S : Int) (w : World) (h : (T < 0 ∨ 4096 < T) ∨ (K < 0 ∨ 64 < K) ∨ (P < 1 ∨ 1000 < P) ∨ (N < 64 ∨ 1024 < N)) :
    Calls Try.prog 10 #[.agg #[.int .i64 T, .int .i64 K, .int .i64 P, .int .i64 N, .int .u64 S]] w fun e w' => e = .returned (.int .i64 100) ∧ Below w.heap.size w w' := by
  by_cases c1 : T < 0 ∨ 4096 < T
  · clear h
    go_enter Try.func10, Try.ntmps10
    go_wp2_with (go_at_call 32; (first | ((refine (within_no _ _ _ _ ?_).mono ?_) <;> first | assumption | skip)); rintro e w' ⟨rfl, rfl⟩)
    go_ret
    exact ⟨rfl, (Below.refl _ _).alloc (Nat.le_refl _) _⟩
  · by_cases c2 : K < 0 ∨ 64 < K
    · have d1 : 0 ≤ T ∧ T ≤ 4096 := by omega
      clear h c1
      go_enter Try.func10, Try.ntmps10
      go_wp2_with fail
      refine (within_yes _ _ _ _ d1.1 d1.2).mono ?_
      rintro e w' ⟨rfl, rfl⟩
      go_wp2_with fail
      refine (within_no _ _ _ _ c2).mono ?_
      rintro e w' ⟨rfl, rfl⟩
      go_wp2_with fail
      go_ret
      exact ⟨rfl, (Below.refl _ _).alloc (Nat.le_refl _) _⟩
    · by_cases c3 : P < 1 ∨ 1000 < P
      · have d1 : 0 ≤ T ∧ T ≤ 4096 := by omega
        have d2 : 0 ≤ K ∧ K ≤ 64 := by omega
        clear h c1 c2
        go_enter Try.func10, Try.ntmps10
        go_wp2_with fail
        refine (within_yes _ _ _ _ d1.1 d1.2).mono ?_
        rintro e w' ⟨rfl, rfl⟩
        go_wp2_with fail
        refine (within_yes _ _ _ _ d2.1 d2.2).mono ?_
        rintro e w' ⟨rfl, rfl⟩
        go_wp2_with fail
        refine (within_no _ _ _ _ c3).mono ?_
        rintro e w' ⟨rfl, rfl⟩
        go_wp2_with fail
        go_ret
        exact ⟨rfl, (Below.refl _ _).alloc (Nat.le_refl _) _⟩
      · have d1 : 0 ≤ T ∧ T ≤ 4096 := by omega
        have d2 : 0 ≤ K ∧ K ≤ 64 := by omega
        have d3 : 1 ≤ P ∧ P ≤ 1000 := by omega
        have c4 : N < 64 ∨ 1024 < N := by omega
        clear h c1 c2 c3
        go_enter Try.func10, Try.ntmps10
        go_wp2_with fail
        refine (within_yes _ _ _ _ d1.1 d1.2).mono ?_
        rintro e w' ⟨rfl, rfl⟩
        go_wp2_with fail
        refine (within_yes _ _ _ _ d2.1 d2.2).mono ?_
        rintro e w' ⟨rfl, rfl⟩
        go_wp2_with fail
        refine (within_yes _ _ _ _ d3.1 d3.2).mono ?_
        rintro e w' ⟨rfl, rfl⟩
        go_wp2_with fail
        refine (within_no _ _ _ _ c4).mono ?_
        rintro e w' ⟨rfl, rfl⟩
        go_wp2_with fail
        go_ret
        exact ⟨rfl, (Below.refl _ _).alloc (Nat.le_refl _) _⟩

set_option maxHeartbeats 2000000 in
theorem ref_ok (T K P N S : Int) (w : World) (h1 : 0 ≤ T ∧ T ≤ 4096) (h2 : 0 ≤ K ∧ K ≤ 64) (h3 : 1 ≤ P ∧ P ≤ 1000) (h4 : 64 ≤ N ∧ N ≤ 1024) :
    Calls Try.prog 11 #[.agg #[.int .i64 T, .int .i64 K, .int .i64 P, .int .i64 N, .int .u64 S]] w fun e w' => e = .returned (.int .i64 0) ∧ Below w.heap.size w w' := by
  obtain ⟨a1, a2⟩ := h1
  obtain ⟨a3, a4⟩ := h2
  obtain ⟨a5, a6⟩ := h3
  obtain ⟨a7, a8⟩ := h4
  have e : decide (1024 < N) = false := by simp; omega
  go_enter Try.func11, Try.ntmps11
  go_wp2
  go_ret
  exact ⟨rfl, (Below.refl _ _).alloc (Nat.le_refl _) _⟩

set_option maxHeartbeats 2000000 in
theorem ref_no (T K P N S : Int) (w : World) (h : (T < 0 ∨ 4096 < T) ∨ (K < 0 ∨ 64 < K) ∨ (P < 1 ∨ 1000 < P) ∨ (N < 64 ∨ 1024 < N)) :
    Calls Try.prog 11 #[.agg #[.int .i64 T, .int .i64 K, .int .i64 P, .int .i64 N, .int .u64 S]] w fun e w' => e = .returned (.int .i64 100) ∧ Below w.heap.size w w' := by
  have g : T < 0 ∨ (0 ≤ T ∧ 4096 < T) ∨ (0 ≤ T ∧ T ≤ 4096 ∧ K < 0) ∨ (0 ≤ T ∧ T ≤ 4096 ∧ 0 ≤ K ∧ 64 < K) ∨ (0 ≤ T ∧ T ≤ 4096 ∧ 0 ≤ K ∧ K ≤ 64 ∧ P < 1) ∨ (0 ≤ T ∧ T ≤ 4096 ∧ 0 ≤ K ∧ K ≤ 64 ∧ 1 ≤ P ∧ 1000 < P) ∨
      (0 ≤ T ∧ T ≤ 4096 ∧ 0 ≤ K ∧ K ≤ 64 ∧ 1 ≤ P ∧ P ≤ 1000 ∧ N < 64) ∨ (0 ≤ T ∧ T ≤ 4096 ∧ 0 ≤ K ∧ K ≤ 64 ∧ 1 ≤ P ∧ P ≤ 1000 ∧ 64 ≤ N ∧ 1024 < N) := by omega
  clear h
  rcases g with h | ⟨h1, h⟩ | ⟨h1, h2, h⟩ | ⟨h1, h2, h3, h⟩ | ⟨h1, h2, h3, h4, h⟩ | ⟨h1, h2, h3, h4, h5, h⟩ | ⟨h1, h2, h3, h4, h5, h6, h⟩ | ⟨h1, h2, h3, h4, h5, h6, h7, h⟩
  all_goals
    go_enter Try.func11, Try.ntmps11
    go_wp2
    go_ret
    exact ⟨rfl, (Below.refl _ _).alloc (Nat.le_refl _) _⟩

set_option maxHeartbeats 2000000 in
theorem walk (T K P N S : Int) (w : World) :
    Calls Try.prog 3 #[.agg #[.int .i64 T, .int .i64 K, .int .i64 P, .int .i64 N, .int .u64 S]] w fun e w' => e = .returned (.bool true) ∧ Below w.heap.size w w' := by
  by_cases h : (T < 0 ∨ 4096 < T) ∨ (K < 0 ∨ 64 < K) ∨ (P < 1 ∨ 1000 < P) ∨ (N < 64 ∨ 1024 < N)
  · have H := Lib.hid h
    clear h
    go_enter Try.func3, Try.ntmps3
    go_wp2_with fail
    refine (check_no _ _ _ _ _ _ H.out).mono ?_
    rintro e w1 ⟨rfl, b1⟩
    obtain ⟨hc, hf⟩ := bcell b1
    go_wp2_with fail
    refine (ref_no _ _ _ _ _ _ H.out).mono ?_
    rintro e w2 ⟨rfl, b2⟩
    go_wp2_with fail
    go_ret
    exact ⟨rfl, below_then (below_then ((Below.refl _ _).alloc (Nat.le_refl _) _) (by simp) b1) (by have := b1.size; simp at this; omega) b2⟩
  · have H : Hid ((0 ≤ T ∧ T ≤ 4096) ∧ (0 ≤ K ∧ K ≤ 64) ∧ (1 ≤ P ∧ P ≤ 1000) ∧ (64 ≤ N ∧ N ≤ 1024)) := Lib.hid (by omega)
    clear h
    go_enter Try.func3, Try.ntmps3
    go_wp2_with fail
    refine (check_ok _ _ _ _ _ _ H.out.1 H.out.2.1 H.out.2.2.1 H.out.2.2.2).mono ?_
    rintro e w1 ⟨rfl, b1⟩
    obtain ⟨hc, hf⟩ := bcell b1
    go_wp2_with fail
    refine (ref_ok _ _ _ _ _ _ H.out.1 H.out.2.1 H.out.2.2.1 H.out.2.2.2).mono ?_
    rintro e w2 ⟨rfl, b2⟩
    go_wp2_with fail
    go_ret
    exact ⟨rfl, below_then (below_then ((Below.refl _ _).alloc (Nat.le_refl _) _) (by simp) b1) (by have := b1.size; simp at this; omega) b2⟩
end Go.Proofs.Ytmekcllgofeenaa.PcW
