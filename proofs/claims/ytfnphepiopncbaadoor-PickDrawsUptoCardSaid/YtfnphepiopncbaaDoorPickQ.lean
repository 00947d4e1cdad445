/- The walk of PickDraws. Conditions: what the tables hold; the bulk. -/
import Derived.Test.YtfnphepiopncbaaDoorPickP
namespace Go.Proofs.YtfnphepiopncbaaDoor.Pick
open Go.RowKit Go.Proofs.YtfnphepiopncbaaDoorW.PrintWords Go.Proofs.YtfnphepiopncbaaDoor.Srt
open Go.Proofs.YtfnphepiopncbaaDoor.PPickSound (S45 z45 k45 k45_mk)
open Go.Proofs.YtfnphepiopncbaaDoor.Heads (kI seqOf kv)
set_option linter.unusedVariables false
set_option linter.unusedSimpArgs false

set_option maxHeartbeats 2000000 in
set_option maxRecDepth 100000 in
theorem draws_walk (T K P N S : Int) (A : Option Addr) (c : Nat) (l : List Int) (A2 : Option Addr) (c2 : Nat) (sn : List Int) (pos : Int) (A3 : Option Addr) (c3 : Nat) (al : List Bool) (w : World) (hA : kI.C w A l.length l) (hB : kI.C w A2 sn.length sn) (hD : Kd.bool.C w A3 al.length al) (hF : Fits w l sn al) :
    Calls Tryd.prog 7 #[.agg #[.int .i64 T, .int .i64 K, .int .i64 P, .int .i64 N, .int .u64 S], .slice A l.length c, .slice A2 sn.length c2, .int .i64 pos, .slice A3 al.length c3] w (Yes w) := by
  have HWK : Aside0 (∀ W, Below w.heap.size w W → Calls Tryd.prog 12 #[] W (fun e w' => e = .returned (.bool true) ∧ Below W.heap.size W w')) := ⟨fun W hb => works_calls W (hF.laid.move hb)⟩
  have HAT : Aside0 (∀ W, Below w.heap.size w W → Calls Tryd.prog 29 #[.int .u64 S, .int .i64 pos, .int .i64 0] W (fun e w' => e = .returned (.int .u64 (atf S pos 0)) ∧ Below W.heap.size W w')) := ⟨fun W hb => at_calls S pos 0 W (hF.laid.move hb)⟩
  have hC1 : ∀ W, Below w.heap.size w W → Calls Tryd.prog 16 #[.agg #[.int .i64 T, .int .i64 K, .int .i64 P, .int .i64 N, .int .u64 S], .slice A l.length c, .slice A2 sn.length c2, .slice A3 al.length c3] W (Gives W (chancesR ⟨T, K, P, N, S⟩ l sn al) (errR ⟨T, K, P, N, S⟩)) := fun W hb => gives_calls T K P N S A c l A2 c2 sn A3 c3 al W (Kd.C_below hA hb) (Kd.C_below hB hb) (Kd.C_below hD hb) (hF.move hb)
  have hC2 : ∀ W, Below w.heap.size w W → Calls Tryd.prog 22 #[.agg #[.int .i64 T, .int .i64 K, .int .i64 P, .int .i64 N, .int .u64 S], .slice A l.length c, .slice A2 sn.length c2, .int .i64 pos, .slice A3 al.length c3] W (fun e w' => e = .returned (.tuple #[.int .i64 (chosen ⟨T, K, P, N, S⟩ l sn pos al), .int .i64 (errR ⟨T, K, P, N, S⟩)]) ∧ Below W.heap.size W w') := fun W hb => choose_calls ⟨T, K, P, N, S⟩ A c l A2 c2 sn pos A3 c3 al W (Kd.C_below hA hb) (Kd.C_below hB hb) (Kd.C_below hD hb) (hF.move hb)
  have her := errR_cases ⟨T, K, P, N, S⟩ l sn al
  have hXl := chancesR_len ⟨T, K, P, N, S⟩ l sn al
  have hXw := chancesR_wts ⟨T, K, P, N, S⟩ l sn al
  have hXf := chancesR_first ⟨T, K, P, N, S⟩ l sn al
  have hnb : l.length ≤ 1048576 := hF.ll
  unfold chosen at hC2
  have hdl := drawn_lt ⟨T, K, P, N, S⟩ pos (chancesR ⟨T, K, P, N, S⟩ l sn al)
  have hud : drawn ⟨T, K, P, N, S⟩ pos (chancesR ⟨T, K, P, N, S⟩ l sn al) = belowf (atf S pos 0) (tot (chancesR ⟨T, K, P, N, S⟩ l sn al)) := rfl
  obtain ⟨X, hX⟩ : ∃ X, chancesR ⟨T, K, P, N, S⟩ l sn al = X := ⟨_, rfl⟩
  obtain ⟨er, he⟩ : ∃ er, errR ⟨T, K, P, N, S⟩ = er := ⟨_, rfl⟩
  rw [hX] at hXl hXw hXf hdl hud
  rw [hX, he] at hC1 hC2 her
  obtain ⟨u, hu⟩ : ∃ u, drawn ⟨T, K, P, N, S⟩ pos X = u := ⟨_, rfl⟩
  rw [hu] at hC2 hdl hud
  obtain ⟨pk, hpk⟩ : ∃ pk, pickf u X = pk := ⟨_, rfl⟩
  rw [hpk] at hC2
  have htr := tot_range hXw
  obtain ⟨xl, hxl⟩ : ∃ xl, xl = X.length := ⟨_, rfl⟩
  obtain ⟨a0, ha0⟩ : ∃ a0, atf S pos 0 = a0 := ⟨_, rfl⟩
  have har := atf_range S pos
  rw [ha0] at HAT hud har
  have HBL : Aside0 (0 < tot X → ∀ W, Calls Tryd.prog 28 #[.int .u64 a0, .int .u64 (tot X)] W (fun e w' => e = .returned (.int .u64 u) ∧ Below W.heap.size W w')) := ⟨fun hpos W => by
    have h := below_calls a0 (tot X) W har (by omega)
    rwa [← hud] at h⟩
  unfold Gives at hC1
  rw [← hxl] at hC1
  have HC1 := Aside0.mk hC1
  have HC2 := Aside0.mk hC2
  have HXL := Aside0.mk hxl
  have HXW := Aside0.mk hXw
  have HPK := Aside0.mk hpk
  have HDL := Aside0.mk hdl
  have HTP : Aside0 (0 < xl → 0 < tot X) := ⟨fun h => tot_pos hXw (by omega) (hXf (by omega))⟩
  have hxb : xl ≤ 1048576 := by omega
  have HNIL : Aside0 (xl = 0 → pk = 0) := ⟨fun h => by
    have : X = [] := List.eq_nil_of_length_eq_zero (by omega)
    rw [← hpk, this]
    rfl⟩
  have x1 : er = 0 ∨ (er = 100 ∧ xl = 0) := by
    rcases her with h | h
    · exact .inl h.1
    · exact .inr ⟨h.1, by rw [hxl, h.2]; rfl⟩
  have HTR : Aside0 (∀ i : Nat, i ≤ xl → 0 ≤ tot (X.take i) ∧ tot (X.take i) ≤ 68719476736) := ⟨fun i hi => by
    have h1 := tot_take hXw i
    have h2 := tot_nonneg (fun x hx => hXw x (List.mem_of_mem_take hx) : Wts (X.take i))
    omega⟩
  obtain ⟨bx, hbx⟩ : ∃ bx, bx = w.heap.size := ⟨_, rfl⟩
  clear hA hB hD hF her hXl hXw hXf hnb hX he hC1 hC2 hdl hud hu hpk htr hxl ha0 har
  go_enter Tryd.func7, Tryd.ntmps7
  go_upto_region 1 with fail
  rw [← hbx]
  refine name_world (X := fun w1 => Code.wp _ _ _ _ w1) fun w1 hw1 => ?_
  have hp1 : PBlk w1 bx T K P N S := by rw [hw1, hbx]; exact PBlk.new w T K P N S
  have hb1 : Below w.heap.size w w1 := by rw [hw1]; exact below_alloc (Below.refl _ _) _
  have HP1 := Aside0.mk hp1
  have HB1 := Aside0.mk hb1
  clear hw1 hp1 hb1 hbx
  go_upto_region 2 with (first | (go_at_call 12; (with_reducible refine Calls.mono (HWK.out _ HB1.out) ?_); rintro e w2 ⟨rfl, hb2⟩) | fail)
  have HP2 := Aside0.mk (HP1.out.move hb2)
  have HB2 := Aside0.mk (below_then HB1.out HB1.out.size hb2)
  clear hb2 HWK HP1 HB1
  have y0 := HP2.out.box.c0
  have y1 := HP2.out.box.c1
  have y2 := HP2.out.box.c2
  have y3 := HP2.out.box.c3
  have y4 := HP2.out.box.c4
  go_upto_region 3 with (first | (go_at_call 16; (with_reducible refine Calls.mono (HC1.out _ HB2.out) ?_); rintro e w3 ⟨A9, c9, rfl, hc9, h9, hb9⟩) | fail)
  have HB3 := Aside0.mk (below_then HB2.out HB2.out.size hb9)
  have HP3 := Aside0.mk (HP2.out.move hb9)
  have H9 := Aside0.mk h9
  clear h9 hb9 hc9 y0 y1 y2 y3 y4 HP2 HB2
  have y0 := HP3.out.box.c0
  have y1 := HP3.out.box.c1
  have y2 := HP3.out.box.c2
  have y3 := HP3.out.box.c3
  have y4 := HP3.out.box.c4
  go_upto_region 4 with (first | (go_at_call 22; (with_reducible refine Calls.mono (HC2.out _ HB3.out) ?_); rintro e w4 ⟨rfl, hb4⟩) | fail)
  have HB4 := Aside0.mk (below_then HB3.out HB3.out.size hb4)
  have HP4 := Aside0.mk (HP3.out.move hb4)
  have H9b := Aside0.mk (H9.out.below hb4)
  clear hb4 y0 y1 y2 y3 y4 HP3 HB3 HC1 HC2 H9
  rcases x1 with rfl | ⟨rfl, rfl⟩
  · rcases Nat.eq_zero_or_pos xl with h0 | h0
    · have hpk := HNIL.out h0
      subst h0
      subst hpk
      go_wp2_with fail
      go_ret
      exact ⟨rfl, HB4.out⟩
    · have htp := HTP.out h0
      have hdl := HDL.out htp
      have HBL2 := Aside0.mk (HBL.out htp)
      have h0b : ((xl : Int) == 0) = false := by simp; omega
      have y4 := HP4.out.box.c4
      have HDD := Aside0.mk hdl
      clear hdl htp HDL HTP HBL HNIL
      go_wp2_with fail
      go_loopg [16, 17] xl (fun gk v16 v17 wr => ∃ i : Nat, v17 = .int .i64 i ∧ v16 = .int .u64 (tot (X.take i)) ∧ i ≤ xl ∧ xl ≤ i + gk ∧ Aside0 (Below w4.heap.size w4 wr))
      case atStart => exact ⟨0, rfl, rfl, by omega, by omega, ⟨Below.refl _ _⟩⟩
      case round =>
        obtain ⟨i, rfl, rfl, hi, hg, HBr⟩ := hrel
        have HBR := Aside0.mk (below_then HB4.out HB4.out.size HBr.out)
        by_cases hlt : i < xl
        · obtain ⟨g, rfl, hc0, hc1, _⟩ := (H9b.out.below HBr.out) i (by rw [← HXL.out]; exact hlt)
          have hx0 := HXW.out (X.getD i z45) (by rw [List.getD_eq_getElem?_getD, List.getElem?_eq_getElem (by rw [← HXL.out]; exact hlt)]; exact List.getElem_mem _)
          have htn := tot_next (xs := X) (i := i) (by rw [← HXL.out]; exact hlt)
          have htr1 := HTR.out (i + 1) hlt
          obtain ⟨f1, hf1⟩ : ∃ f1, (X.getD i z45).f1 = f1 := ⟨_, rfl⟩
          rw [hf1] at hc1 htn hx0
          obtain ⟨t0, ht0⟩ : ∃ t0, tot (X.take i) = t0 := ⟨_, rfl⟩
          rw [ht0] at htn ⊢
          rw [htn] at htr1
          have v1 : IntKind.u64.wrap f1 = f1 := by rw [u64_wrap]; omega
          have v2 : IntKind.u64.wrap (t0 + f1) = t0 + f1 := by rw [u64_wrap]; omega
          have HTN := Aside0.mk htn
          clear hc0 hf1 ht0 htn hx0 htr1
          go_wp2_with fail
          go_roundg (xl - (i + 1))
          case measure => omega
          case rel => exact ⟨i + 1, by first | rfl | (simp; done), by rw [HTN.out], by omega, by omega, HBr⟩
        · obtain rfl : i = xl := by omega
          have ht : tot (X.take i) = tot X := by rw [HXL.out, List.take_length]
          rw [ht]
          have y4 := pw_cell_below HBr.out y4
          clear ht
          go_upto_region 12 with (first | (go_at_call 29; (with_reducible refine Calls.mono (HAT.out _ HBR.out) ?_); rintro e w5 ⟨rfl, hb5⟩) | (go_at_call 28; (with_reducible refine Calls.mono (HBL2.out _) ?_); rintro e w6 ⟨rfl, hb6⟩) | fail)
          have hb46 := below_then HBr.out HBr.out.size (below_then hb5 hb5.size hb6)
          have H9c := Aside0.mk (H9b.out.below hb46)
          have HB6 := Aside0.mk (below_then HB4.out HB4.out.size hb46)
          clear hb5 hb6 hb46 y4
          go_wp2_with fail
          go_loopg [19, 20] i (fun gk v19 v20 wr => ∃ j : Nat, v20 = .int .i64 j ∧ v19 = .int .u64 (tot (X.take j)) ∧ j ≤ i ∧ i ≤ j + gk ∧ Aside0 (tot (X.take j) ≤ u) ∧ Aside0 (Below w6.heap.size w6 wr))
          case atStart => exact ⟨0, rfl, rfl, by omega, by omega, ⟨HDD.out.1⟩, ⟨Below.refl _ _⟩⟩
          case round =>
            obtain ⟨j, rfl, rfl, hj, hgj, HLE, HBr2⟩ := hrel
            have HBR2 := Aside0.mk (below_then HB6.out HB6.out.size HBr2.out)
            by_cases hlt2 : j < i
            · obtain ⟨g, rfl, hc0, hc1, _⟩ := (H9c.out.below HBr2.out) j (by rw [← HXL.out]; exact hlt2)
              have hx0 := HXW.out (X.getD j z45) (by rw [List.getD_eq_getElem?_getD, List.getElem?_eq_getElem (by rw [← HXL.out]; exact hlt2)]; exact List.getElem_mem _)
              have htn := tot_next (xs := X) (i := j) (by rw [← HXL.out]; exact hlt2)
              have htr1 := HTR.out (j + 1) hlt2
              have hle := HLE.out
              have hpa := pickf_at X u j HXW.out (by rw [← HXL.out]; exact hlt2) hle
              rw [HPK.out] at hpa
              obtain ⟨f0, hf0⟩ : ∃ f0, (X.getD j z45).f0 = f0 := ⟨_, rfl⟩
              obtain ⟨f1, hf1⟩ : ∃ f1, (X.getD j z45).f1 = f1 := ⟨_, rfl⟩
              rw [hf1] at hc1 htn hx0 hpa
              rw [hf0] at hc0 hpa
              obtain ⟨t0, ht0⟩ : ∃ t0, tot (X.take j) = t0 := ⟨_, rfl⟩
              rw [ht0] at htn hle hpa ⊢
              rw [htn] at htr1
              have v1 : IntKind.u64.wrap f1 = f1 := by rw [u64_wrap]; omega
              have v2 : IntKind.u64.wrap (t0 + f1) = t0 + f1 := by rw [u64_wrap]; omega
              have HTN := Aside0.mk htn
              have HPA := Aside0.mk hpa
              clear hf0 hf1 ht0 htn hx0 htr1 hpa
              by_cases hin : u < t0 + f1
              · obtain rfl := HPA.out hin
                go_wp2_with fail
                go_ret
                exact ⟨rfl, HBR2.out⟩
              · go_wp2_with fail
                go_roundg (i - (j + 1))
                case measure => omega
                case rel => exact ⟨j + 1, by first | rfl | (simp; done), by rw [HTN.out], by omega, by omega, ⟨by rw [HTN.out]; omega⟩, HBr2⟩
            · obtain rfl : j = i := by omega
              have ht : tot (X.take j) = tot X := by rw [HXL.out, List.take_length]
              have h1 := HLE.out
              have h2 := HDD.out.2
              omega
  · have hpk := HNIL.out rfl
    subst hpk
    go_wp2_with fail
    go_ret
    exact ⟨rfl, HB4.out⟩
#print axioms draws_walk
end Go.Proofs.YtfnphepiopncbaaDoor.Pick
