/- Shape, New, Len; a nil cache. Conditions: none. -/
import Derived.Test.YtomjfhlcploblaaPfxH
namespace Go.Proofs.Ytomjfhlcploblaa.Pfx
open Go.RowKit Go.Proofs.YtomjfhlcploblaaW.PrintWords Go.Proofs.YtomjfhlcploblaaW.PrintMore Go.Proofs.Ytomjfhlcploblaa.Pool Go.Proofs.Ytomjfhlcploblaa.MapsV
open Go.Maps (Keyed)
set_option linter.unusedVariables false
set_option linter.unusedSimpArgs false

theorem results_tmp4 {fn : Func} {t u v x : Tmp} (h : fn.results = #[.tmp t, .tmp u, .tmp v, .tmp x]) (tmps : Array Value) (P : Program) (w : World) : (results fn tmps).run P w = .ok (.tuple #[tmps.getD t undef, tmps.getD u undef, tmps.getD v undef, tmps.getD x undef]) w := by
  simp [results, h]
set_option maxHeartbeats 4000000 in
theorem shape_calls (d : Ad) (S : Pl) (w : World) (hA : At w d S) :
    Calls Try.prog 87 #[.pointer (some ⟨d.p, 0, none⟩)] w (Quiet w (.tuple #[.int .i64 (S.L : Int), .int .i64 (S.W : Int), .int .i64 (S.N : Int), .int .i64 (S.Z : Int)])) := by
  obtain ⟨q0, q1, q2, q3, q4, q5, _⟩ := hA.fields
  clear hA
  go_enter Try.func87, Try.ntmps87
  go_wp2_with fail
  go_quiet (fail)
  go_wp2_with fail
  refine bodyPost_ret (results_tmp4 rfl _ _ _) rfl ?_
  exact ⟨rfl, _, rfl⟩
set_option maxHeartbeats 4000000 in
theorem len_calls (A : Adc) (C : Cs) (w : World) (hA : Ca w A C) : Calls Try.prog 48 #[.pointer (some ⟨A.c, 0, none⟩)] w (fun e w' => e = .returned (.int .i64 (C.N.length : Int)) ∧ w' = w) := by
  have HA := Aside0.mk hA
  have c2 := hA.fields.2.2.1
  have hl : (keysOf C.N).length = C.N.length := by unfold keysOf; rw [List.length_map]
  have HL := Aside0.mk hl
  clear hA hl
  go_enter Try.func48, Try.ntmps48
  go_wp2_with (first | ((with_reducible refine gate_builtin (b := .len) (xs := #[.tmp 8]) rfl ?_); refine wpList_len _ rfl (.tmp 8) 139 143 rfl Try.underlying139 rfl HA.out.keys ?_; rw [HL.out]) | fail)
  go_ret
  exact ⟨rfl, rfl⟩
theorem len_nil (w : World) : Calls Try.prog 48 #[.pointer none] w (fun e w' => e = .returned (.int .i64 0) ∧ w' = w) := by
  go_enter Try.func48, Try.ntmps48
  go_wp2_with fail
  go_ret
  exact ⟨rfl, rfl⟩
theorem shrink_nil (w : World) (n : Int) : Calls Try.prog 47 #[.pointer none, .int .i64 n] w (fun e w' => e = .returned (.int .i64 0) ∧ w' = w) := by
  go_enter Try.func47, Try.ntmps47
  go_wp2_with fail
  go_ret
  exact ⟨rfl, rfl⟩
theorem find_nil (w : World) (v : Value) : Calls Try.prog 44 #[.pointer none, v] w (fun e w' => e = .returned (.slice none 0 0) ∧ w' = w) := by
  go_enter Try.func44, Try.ntmps44
  go_wp2_with fail
  go_ret
  exact ⟨rfl, rfl⟩
set_option maxRecDepth 100000 in
set_option maxHeartbeats 4000000 in
theorem keep_nil (w : World) (v u : Value) : Calls Try.prog 41 #[.pointer none, v, u] w (fun e w' => e = .returned (.int .i64 1) ∧ w' = w) := by
  go_enter Try.func41, Try.ntmps41
  go_wp2_with fail
  go_ret
  exact ⟨rfl, rfl⟩
theorem new_nil (w : World) : Calls Try.prog 46 #[.pointer none] w (fun e w' => e = .returned (.pointer none) ∧ w' = w) := by
  go_enter Try.func46, Try.ntmps46
  go_wp2_with fail
  go_ret
  exact ⟨rfl, rfl⟩
/-- A new cache. -/
def NewC (d : Ad) (S : Pl) (w : World) (e : Ending) (w' : World) : Prop := ∃ A : Adc, e = .returned (.pointer (some ⟨A.c, 0, none⟩)) ∧ A.p = d.p ∧ A.Z = S.Z ∧ Ca w' A ⟨[], 0, 0⟩ ∧ (∀ k, A.own [] k → w.heap.size ≤ k) ∧ Below w.heap.size w w'
theorem new_ca (w : World) (p Z s : Nat) (hs : w.heap.size = s) : Ca (((w.alloc (.map #[] 0)).alloc (.map #[] 0)).alloc (.cells #[.pointer (some ⟨p, 0, none⟩), .int .i64 (Z : Int), .map (some s), .map (some (s + 1)), .int .i64 0, .int .i64 0] 142)) ⟨s + 1 + 1, s, s + 1, p, Z⟩ ⟨[], 0, 0⟩ := by
  subst hs
  refine ⟨?_, ?_, ?_, (fun q h => absurd h List.not_mem_nil), (fun q h => absurd h List.not_mem_nil), Nat.ne_of_lt (Nat.lt_succ_self _)⟩
  · have := (MapKept.heap_alloc ((w.alloc (.map #[] 0)).alloc (.map #[] 0)) (.cells #[.pointer (some ⟨p, 0, none⟩), .int .i64 (Z : Int), .map (some w.heap.size), .map (some (w.heap.size + 1)), .int .i64 0, .int .i64 0] 142)).1
    rw [World.size_alloc, World.size_alloc] at this
    exact this
  · exact ((HasMap.made w Try.prog 147 ekey eptr).alloc _).alloc _
  · have := HasMap.made (w.alloc (.map #[] 0)) Try.prog 3 (Value.int .i64) eptr
    rw [World.size_alloc] at this
    exact this.alloc _
set_option maxHeartbeats 4000000 in
theorem new_cache (d : Ad) (S : Pl) (w : World) (hA : At w d S) : Calls Try.prog 46 #[.pointer (some ⟨d.p, 0, none⟩)] w (NewC d S w) := by
  have HSH := Aside0.mk (shape_calls d S w hA)
  have hmm := @run_makeMap Try.prog
  clear hA
  go_enter Try.func46, Try.ntmps46
  go_wp2_with (first | (go_at_call 87; (with_reducible refine Calls.mono HSH.out ?_); rintro e w2 ⟨rfl, j, rfl⟩) | fail)
  go_ret
  refine ⟨⟨w.heap.size + 1 + 1, w.heap.size, w.heap.size + 1, d.p, S.Z⟩, rfl, rfl, rfl, new_ca (w.drewN j) d.p S.Z w.heap.size (by simp), ?_, ?_⟩
  · rintro k (rfl | rfl | rfl | ⟨q, hq, _⟩)
    · simp only []
      omega
    · simp only []
      omega
    · simp only []
      omega
    · cases hq
  · exact (((pw_below_drewN (Below.refl _ w) j).alloc (by simp) _).alloc (by simp) _).alloc (by simp; omega) _
#print axioms keep_nil
end Go.Proofs.Ytomjfhlcploblaa.Pfx
