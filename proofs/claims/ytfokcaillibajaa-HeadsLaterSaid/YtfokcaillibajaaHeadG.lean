/- rankedAgain and fixed: true. Conditions: none. -/
import Derived.Test.YtfokcaillibajaaHeadP
namespace Go.Proofs.Ytfokcaillibajaa.Heads
open Go.RowKit Go.Shelf Go.Proofs.YtfokcaillibajaaW.PrintWords Go.Proofs.Ytfokcaillibajaa.Srt
set_option linter.unusedVariables false
set_option linter.unusedSimpArgs false

theorem lit_row (t : Nat) (w : World) (x y : Int) : Row64 t w.heap.size [x, y] (.slice (some ⟨w.heap.size, 0, none⟩) 2 2) (w.alloc (.cells #[.int .i64 x, .int .i64 y] t)) := own_lit w w.heap.size t .i64 [x, y] (Nat.le_refl _) (by simp)
theorem row_C2 {t base : Nat} {x y : Int} {v : Value} {w : World} (h : Row64 t base [x, y] v w) : ∃ A c, v = .slice A 2 c ∧ kI.C w A 2 [x, y] := by
  obtain ⟨A, c, e, _, _, hC⟩ := row_C h
  exact ⟨A, c, e, hC⟩
theorem rank35 : rankOf [3, 5] 0 = [1, 0] := by
  symm
  refine ordl_of (List.Perm.swap _ _ _) ?_
  simp [kv, Srt.ahead]
theorem rank95 : rankOf [9, 5] 0 = [0, 1] := by
  symm
  refine ordl_of (List.Perm.refl _) ?_
  simp [kv, Srt.ahead]
theorem top35 : topOf [3, 5] 2 = [1, 0] := by
  have h := rank35
  rw [rank_zero] at h
  unfold topOf
  rw [h]
  rfl
def Yes (w : World) (e : Ending) (w' : World) : Prop := e = .returned (.bool true) ∧ Below w.heap.size w w'
theorem Still.yes {w w' : World} {e : Ending} (h : Still true w e w') : e = .returned (.bool true) ∧ Below w.heap.size w w' := by
  obtain ⟨h1, q, rfl⟩ := h
  exact ⟨h1, pw_below_drewN (Below.refl _ _) q⟩
set_option maxHeartbeats 4000000 in
set_option maxRecDepth 100000 in
theorem again_calls (w : World) : Calls Try.prog 10 #[] w (Yes w) := by
  have HX : Aside0 (∀ W A x y, kI.C W A 2 [x, y] → Calls Try.prog 7 #[.slice A 2 2, .int .i64 0] W (LrPost [x, y] 0 W)) := ⟨fun W A x y h => lranked_calls A 2 [x, y] 0 W h (by simp)⟩
  have HE : Aside0 (∀ W A c B c2 x y, kI.C W A 2 [x, y] → kI.C W B 2 [x, y] → Calls Try.prog 8 #[.slice A 2 c, .slice B 2 c2] W (Still true W)) := ⟨fun W A c B c2 x y h1 h2 => eqi_calls A c B c2 [x, y] W h1 h2 (by simp)⟩
  have hl := lit_row 2 w 3 5
  have hb1 : Below w.heap.size w (w.alloc (.cells #[.int .i64 3, .int .i64 5] 2)) := (Below.refl _ _).alloc (Nat.le_refl _) _
  have HL := Aside0.mk hl
  have HB1 := Aside0.mk hb1
  clear hl hb1
  go_enter Try.func10, Try.ntmps10
  go_upto_region 2 with fail
  refine name_world (X := fun w1 => Code.wp _ _ _ _ w1) fun w1 hw1 => ?_
  rw [← hw1] at HL HB1
  have hs1 : w.heap.size + 1 = w1.heap.size := by rw [hw1]; simp
  have HS1 := Aside0.mk hs1
  clear hw1 hs1
  go_upto_region 3 with (go_at_call 7; go_loud ((with_reducible refine Calls.mono (HX.out _ _ 3 5 (by obtain ⟨A, c, e, h⟩ := row_C2 HL.out; cases e; exact h)) ?_); rintro e w2 ⟨v, rfl, hrow, hB⟩; have HROW := Aside0.mk hrow; have HB2 := Aside0.mk hB; clear hrow hB))
  have hl2 : Row64 2 w.heap.size [3, 5] (.slice (some ⟨w.heap.size, 0, none⟩) 2 2) w2 := pw_own_below HL.out HB2.out
  obtain ⟨hc0, hf0⟩ := own_at (n := 2) hl2 0 (by omega) (by omega)
  have hc : w2.cell? ⟨w.heap.size, 0, none⟩ = some (.int .i64 3) := hc0
  have hf : w2.frozen? ⟨w.heap.size, 0, none⟩ = false := hf0
  have HL2 := Aside0.mk hl2
  clear hl2 hc0 hf0
  go_upto_region 4 with fail
  refine name_world (X := fun w1 => Code.wp _ _ _ _ w1) fun w3 hw3 => ?_
  have hl3 : Row64 2 w.heap.size [9, 5] (.slice (some ⟨w.heap.size, 0, none⟩) 2 2) w3 := by rw [hw3]; exact own_put HL2.out 0 9
  have hb3 : Below w.heap.size w w3 := by rw [hw3]; exact (below_then HB1.out HB1.out.size HB2.out).setCell (p := ⟨w.heap.size, 0, none⟩) (Nat.le_refl _) _
  have hr3 : w3.ownsRow w1.heap.size 3 1 v (rankOf [3, 5] 0).length (nums .i64 (rankOf [3, 5] 0)) := by rw [hw3]; exact ownsRow_setCell_below HROW.out (by show w.heap.size < _; have := HS1.out; omega) _
  rw [rank35] at hr3
  obtain ⟨A3, c3, e3, hA3⟩ := row_C2 hr3
  subst e3
  have HL3 := Aside0.mk hl3
  have HB3 := Aside0.mk hb3
  have HA3 := Aside0.mk hA3
  clear hw3 hl3 hb3 hr3 hA3 hc hf
  go_upto_region 5 with (go_at_call 7; (with_reducible refine Calls.mono (HX.out _ _ 9 5 (by obtain ⟨A, c, e, h⟩ := row_C2 HL3.out; cases e; exact h)) ?_); rintro e w4 ⟨v4, rfl, hrow, hB⟩; rw [rank95] at hrow; obtain ⟨A4, c4, e4, hA4⟩ := row_C2 hrow; subst e4; have HA4 := Aside0.mk hA4; have HB4 := Aside0.mk hB; clear hrow hB hA4)
  have ha3 := Kd.C_below HA3.out HB4.out
  have hb4 := below_then HB3.out HB3.out.size HB4.out
  have ha4 := HA4.out
  clear HX HL HL2 HL3 HB1 HB2 HB3 HB4 HA3 HA4 HROW HS1
  have hm1 := lit_row 3 w4 1 0
  obtain ⟨Am, cm, em, hm1⟩ := row_C2 hm1
  cases em
  have h1 := HE.out _ A3 c3 (some ⟨w4.heap.size, 0, none⟩) 2 1 0 (Kd.C_alloc ha3 _) hm1
  have H1 := Aside0.mk h1
  have hb5 : Below w.heap.size w (w4.alloc (.cells #[.int .i64 1, .int .i64 0] 3)) := hb4.alloc hb4.size _
  have hh : Aside0 (∀ q, Calls Try.prog 8 #[.slice A4 2 c4, .slice (some ⟨w4.heap.size + 1, 0, none⟩) 2 2] (((w4.alloc (.cells #[.int .i64 1, .int .i64 0] 3)).drewN q).alloc (.cells #[.int .i64 0, .int .i64 1] 3)) (Still true (((w4.alloc (.cells #[.int .i64 1, .int .i64 0] 3)).drewN q).alloc (.cells #[.int .i64 0, .int .i64 1] 3)))) := ⟨fun q => by
    have hq := lit_row 3 ((w4.alloc (.cells #[.int .i64 1, .int .i64 0] 3)).drewN q) 0 1
    rw [show ((w4.alloc (.cells #[.int .i64 1, .int .i64 0] 3)).drewN q).heap.size = w4.heap.size + 1 by simp] at hq
    obtain ⟨Ax, cx, ex, hx⟩ := row_C2 hq
    cases ex
    exact HE.out _ A4 c4 _ 2 0 1 (Kd.C_alloc (Kd.C_below (Kd.C_alloc ha4 _) (pw_below_drewN (Below.refl _ _) q)) _) hx⟩
  have hfin : Aside0 (∀ q r, Below w.heap.size w ((((w4.alloc (.cells #[.int .i64 1, .int .i64 0] 3)).drewN q).alloc (.cells #[.int .i64 0, .int .i64 1] 3)).drewN r)) := ⟨fun q r => pw_below_drewN ((pw_below_drewN hb5 q).alloc (by simp; have := hb4.size; omega) _) r⟩
  clear h1 ha3 ha4 hb5 hb4 hm1
  go_wp2_with (first | (go_at_call 8; (first | (with_reducible refine Calls.mono H1.out ?_) | (with_reducible refine Calls.mono (hh.out _) ?_)); rintro e w5 ⟨rfl, q5, rfl⟩) | fail)
  go_ret
  exact ⟨rfl, hfin.out _ _⟩
#print axioms again_calls
set_option maxHeartbeats 4000000 in
set_option maxRecDepth 100000 in
theorem fixed_calls (w : World) : Calls Try.prog 4 #[] w (Yes w) := by
  have hl := lit_row 2 w 3 5
  obtain ⟨Al, cl, el, hC⟩ := row_C2 hl
  cases el
  have hb1 : Below w.heap.size w (w.alloc (.cells #[.int .i64 3, .int .i64 5] 2)) := (Below.refl _ _).alloc (Nat.le_refl _) _
  have HX := Aside0.mk (top_calls (some ⟨w.heap.size, 0, none⟩) 2 [3, 5] 2 _ hC (by simp))
  have HY : Aside0 (∀ W, Calls Try.prog 10 #[] W (Yes W)) := ⟨fun W => again_calls W⟩
  have HB1 := Aside0.mk hb1
  clear hb1 hC hl
  go_enter Try.func4, Try.ntmps4
  go_upto_region 2 with (go_at_call 9; (with_reducible refine Calls.mono HX.out ?_); rintro e w2 ⟨v, rfl, hrow, hB⟩; rw [top35] at hrow; obtain ⟨A2, c2, e2, hA2⟩ := row_C2 hrow; subst e2; have HA2 := Aside0.mk hA2; have HB2 := Aside0.mk (below_then HB1.out HB1.out.size hB); clear hrow hA2 hB)
  go_upto_region 3 with (go_at_call 10; (with_reducible refine Calls.mono (HY.out _) ?_); rintro e w3 ⟨rfl, hB⟩; have hA3 := Kd.C_below HA2.out hB; have HB3 := Aside0.mk (below_then HB2.out HB2.out.size hB); clear hB)
  obtain ⟨ad, rfl, d0⟩ := Kd.at_int hA3 0 (by omega) (by omega)
  obtain ⟨ad2, e2, d1⟩ := Kd.at_int hA3 1 (by omega) (by omega)
  cases e2
  have d0' : w3.cell? ad = some (.int .i64 1) := by have h : w3.cell? (ad.add 0) = some (.int .i64 1) := d0; simpa [Addr.add] using h
  have d1' : w3.cell? ⟨ad.block, ad.off + 1, none⟩ = some (.int .i64 0) := by have h : w3.cell? (ad.add 1) = some (.int .i64 0) := d1; simpa [Addr.add] using h
  clear d0 d1 hA3 HA2 HX HY
  go_wp2_with fail
  go_ret
  exact ⟨rfl, HB3.out⟩
#print axioms fixed_calls
end Go.Proofs.Ytfokcaillibajaa.Heads
