/- single: a text of one token again and again. Conditions: the number's bound. -/
import Derived.Test.YtomjfhlcploblaaPfxR
namespace Go.Proofs.Ytomjfhlcploblaa.Pfx
open Go.RowKit Go.Proofs.YtomjfhlcploblaaW.PrintWords Go.Proofs.YtomjfhlcploblaaW.PrintMore Go.Proofs.Ytomjfhlcploblaa.Pool Go.Proofs.Ytomjfhlcploblaa.MapsV
set_option linter.unusedVariables false
set_option linter.unusedSimpArgs false

def halfI (n i : Nat) (x : Int) : List Int := List.replicate i x ++ List.replicate (n - i) 0
theorem half_set {n i : Nat} (h : i < n) (x : Int) : (halfI n i x).set i x = halfI n (i + 1) x := by
  unfold halfI
  obtain ⟨k, hk⟩ : ∃ k, n - i = k + 1 := ⟨n - i - 1, by omega⟩
  have hk2 : n - (i + 1) = k := by omega
  rw [hk, hk2, List.replicate_succ, List.set_append_right _ _ (by simp)]
  simp [List.replicate_succ', List.append_assoc]
theorem half_len {n i : Nat} (h : i ≤ n) (x : Int) : (halfI n i x).length = n := by
  unfold halfI
  simp
  omega
theorem ivs_set (l : List Int) (i : Nat) (x : Int) : ivs (l.set i x) = (ivs l).set i (.int .i64 x) := by
  simp [ivs, List.map_set]
theorem blk_seti {w : World} {g i : Nat} {l : List Int} {t : Nat} (h : w.heap[g]? = some (.cells (ivs l).toArray t (0, 0))) (x : Int) : (w.setCell ⟨g, i, none⟩ (.int .i64 x)).heap[g]? = some (.cells (ivs (l.set i x)).toArray t (0, 0)) := by
  have := blk_set h i (.int .i64 x)
  rw [ivs_set]
  simpa using this
theorem cell_ints {w : World} {g i : Nat} {l : List Int} {t : Nat} (h : w.heap[g]? = some (.cells (ivs l).toArray t (0, 0))) (hi : i < l.length) : w.cell? ⟨g, i, none⟩ = some (.int .i64 (l.getD i 0)) := by
  rw [blk_cell h i]
  simp [ivs, List.getD_eq_getElem?_getD, List.getElem?_eq_getElem hi, hi]
theorem made_ints (w : World) (n : Nat) (x : Int) : (w.alloc (.cells (madeCells #[.int .i64 0] n) 3)).heap[w.heap.size]? = some (.cells (ivs (halfI n 0 x)).toArray 3 (0, 0)) := by
  rw [made_one _ rfl, (MapKept.heap_alloc w _).1]
  simp [halfI, ivs]
set_option maxHeartbeats 4000000 in
set_option maxRecDepth 100000 in
theorem single_calls (x : Int) (n : Nat) (hn1 : 1 ≤ n) (hn : n ≤ 16) (w : World) : Calls Try.prog 54 #[.int .i64 x, .int .i64 (n : Int)] w (fun e w' => e = .returned (.slice (some ⟨w.heap.size, 0, none⟩) n n) ∧ w'.heap[w.heap.size]? = some (.cells (ivs (List.replicate n x)).toArray 3 (0, 0)) ∧ Below w.heap.size w w') := by
  have m1 := print_make (P := Try.prog) 45 3 .i64 8 Try.underlying45 infoI (by omega) n (by omega)
  go_enter Try.func54, Try.ntmps54
  go_wp2_with fail
  clear m1
  go_loopg [6] n (fun gk v6 wr => ∃ i : Nat, v6 = .int .i64 (i : Int) ∧ i ≤ n ∧ n ≤ i + gk ∧ Aside0 (wr.heap[w.heap.size]? = some (.cells (ivs (halfI n i x)).toArray 3 (0, 0))) ∧ Aside0 (Below w.heap.size w wr))
  case atStart =>
    refine ⟨0, rfl, by omega, by omega, ⟨?_⟩, ⟨(Below.refl _ _).alloc (Nat.le_refl _) _⟩⟩
    exact made_ints w n x
  case round =>
    obtain ⟨i, rfl, hi, hg, HB, HW⟩ := hrel
    by_cases hlt : i < n
    · have c1 := cell_ints HB.out (i := i) (by rw [half_len hi]; exact hlt)
      have c2 : wr.frozen? ⟨w.heap.size, i, none⟩ = false := blk_frozen HB.out i
      go_wp2_with fail
      go_roundg (n - (i + 1))
      case measure => omega
      case rel =>
        refine ⟨i + 1, by simp, by omega, by omega, ⟨?_⟩, ⟨?_⟩⟩
        · have := blk_seti HB.out x (i := i)
          rw [half_set hlt] at this
          exact this
        · exact below_set HW.out (Nat.le_refl _)
    · have e : i = n := by omega
      subst e
      go_wp2_with fail
      go_ret
      refine ⟨rfl, ?_, HW.out⟩
      have := HB.out
      unfold halfI at this
      simpa using this
#print axioms single_calls
end Go.Proofs.Ytomjfhlcploblaa.Pfx
