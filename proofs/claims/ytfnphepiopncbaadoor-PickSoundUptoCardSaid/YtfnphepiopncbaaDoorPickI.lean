/- Two alike lists of chances are alike; works. Conditions: what the tables hold. -/
import Derived.Test.YtfnphepiopncbaaDoorPickH
namespace Go.Proofs.YtfnphepiopncbaaDoor.Pick
open Go.RowKit Go.Proofs.YtfnphepiopncbaaDoorW.PrintWords Go.Proofs.YtfnphepiopncbaaDoor.Srt
open Go.Proofs.YtfnphepiopncbaaDoor.PPickSound (S45 z45 k45 k45_mk)
open Go.Proofs.YtfnphepiopncbaaDoor.Heads (kI seqOf kv)
set_option linter.unusedVariables false
set_option linter.unusedSimpArgs false

set_option maxHeartbeats 1000000 in
theorem eqch_calls (A : Option Addr) (c : Nat) (B : Option Addr) (c2 : Nat) (l : List S45) (w : World) (hA : Chs w A l) (hB : Chs w B l) (hl : l.length ≤ 1048576) :
    Calls Tryd.prog 18 #[.slice A l.length c, .slice B l.length c2] w (Says (.bool true) w) := by
  have hu45 := Tryd.underlying45
  obtain ⟨n, hn⟩ : ∃ n, n = l.length := ⟨_, rfl⟩
  rw [← hn] at hl ⊢
  have HA := Aside0.mk hA
  have HB := Aside0.mk hB
  have HN := Aside0.mk hn
  clear hA hB hn
  go_enter Tryd.func18, Tryd.ntmps18
  go_wp2_with fail
  go_loopg [5] n (fun gk v5 wr => ∃ i : Nat, v5 = .int .i64 i ∧ i ≤ n ∧ n ≤ i + gk ∧ Aside0 (∃ q, wr = w.drewN q))
  case atStart => exact ⟨0, rfl, by omega, by omega, ⟨0, rfl⟩⟩
  case round =>
    obtain ⟨i, rfl, hi, hg, HQ⟩ := hrel
    by_cases hlt : i < n
    · have hAr : Chs wr A l := by obtain ⟨q, e⟩ := HQ.out; rw [e]; exact HA.out
      have hBr : Chs wr B l := by obtain ⟨q, e⟩ := HQ.out; rw [e]; exact HB.out
      obtain ⟨g, rfl, a0, a1, _⟩ := hAr i (by rw [← HN.out]; exact hlt)
      obtain ⟨g2, rfl, b0, b1, _⟩ := hBr i (by rw [← HN.out]; exact hlt)
      obtain ⟨x, hx⟩ : ∃ x, (l.getD i z45).f0 = x := ⟨_, rfl⟩
      obtain ⟨y, hy⟩ : ∃ y, (l.getD i z45).f1 = y := ⟨_, rfl⟩
      rw [hx] at a0 b0
      rw [hy] at a1 b1
      clear hAr hBr hx hy
      go_wp2_with fail
      go_quiet (fail)
      go_wp2_with fail
      go_roundg (n - (i + 1))
      case measure => omega
      case rel => exact ⟨i + 1, by first | rfl | (simp; done), by omega, by omega, ⟨by obtain ⟨q, e⟩ := HQ.out; exact ⟨q + nq, by rw [e, World.drewN_drewN]⟩⟩⟩
    · obtain rfl : i = n := by omega
      go_wp2_with fail
      go_ret
      exact ⟨rfl, HQ.out⟩
#print axioms eqch_calls
theorem works_list : chancesf ⟨0, 0, 1000, 256, 0⟩ [3, 9, 4] [] [] = [⟨1, 65536⟩] := by
  have e1 : scores 256 [] [3, 9, 4] = [3, 9, 4] := by decide
  have e2 : ordl (kv [3, 9, 4]) 3 = [1, 2, 0] := by
    symm
    refine ordl_of ?_ ?_
    · show List.Perm [1, 2, 0] [0, 1, 2]
      decide
    · simp [kv, Srt.ahead]
  unfold chancesf later
  dsimp only
  rw [if_neg (by decide), e1]
  unfold firsts seqOf
  rw [show ([3, 9, 4] : List Int).length = 3 from rfl, e2]
  rfl
set_option maxHeartbeats 1000000 in
theorem works_calls (w : World) (hL : Laid w) : Calls Tryd.prog 12 #[] w (fun e w' => e = .returned (.bool true) ∧ Below w.heap.size w w') := by
  have hb1 : Below w.heap.size w (w.alloc (.cells #[.int .i64 3, .int .i64 9, .int .i64 4] 2)) := below_alloc (Below.refl _ _) _
  have hC : kI.C (w.alloc (.cells #[.int .i64 3, .int .i64 9, .int .i64 4] 2)) (some ⟨w.heap.size, 0, none⟩) 3 [3, 9, 4] := by
    obtain ⟨A, c, e, hR⟩ := own_reads (own_lit w w.heap.size 2 .i64 [3, 9, 4] (Nat.le_refl _) (by simp))
    cases e
    exact Kd.C_of_reads hR
  have h : Calls Tryd.prog 22 #[.agg #[.int .i64 0, .int .i64 0, .int .i64 1000, .int .i64 256, .int .u64 0], .slice (some ⟨w.heap.size, 0, none⟩) 3 3, .slice none 0 0, .int .i64 0, .slice none 0 0] (w.alloc (.cells #[.int .i64 3, .int .i64 9, .int .i64 4] 2)) _ := choose_ok ⟨0, 0, 1000, 256, 0⟩ (by decide) (some ⟨w.heap.size, 0, none⟩) 3 [3, 9, 4] none 0 [] 0 none 0 [] _ hC ⟨rfl, by simp, fun h => absurd h (by simp)⟩ ⟨rfl, by simp, fun h => absurd h (by simp)⟩ ⟨by simp, by simp, fun x hx => by simp at hx, hL.move hb1⟩
  rw [works_list] at h
  have e : pickf (drawn ⟨0, 0, 1000, 256, 0⟩ 0 [⟨1, 65536⟩]) [⟨1, 65536⟩] = 1 := by
    have hd : drawn ⟨0, 0, 1000, 256, 0⟩ 0 [⟨1, 65536⟩] < 65536 := by
      unfold drawn
      exact (below_lt _ _ (mixf_range _) (by decide)).2
    rw [pickf_cons, if_pos (by show drawn _ _ _ - 65536 < 0; omega)]
  rw [e] at h
  have H := Aside0.mk h
  have HB := Aside0.mk hb1
  clear h hC hb1 e hL
  go_enter Tryd.func12, Tryd.ntmps12
  go_wp2_with (first | (go_at_call 22; (with_reducible refine Calls.mono H.out ?_); rintro e w2 ⟨rfl, hb⟩) | fail)
  go_ret
  exact ⟨rfl, below_then HB.out HB.out.size hb⟩
#print axioms works_calls
end Go.Proofs.YtfnphepiopncbaaDoor.Pick
