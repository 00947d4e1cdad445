/- The walk of PickNested. Printed in part by gen_nested.py. Conditions: what the tables hold; the bulk. -/
import Derived.Test.YtfnphepiopncbaaDoorPickN
namespace Go.Proofs.YtfnphepiopncbaaDoor.Pick
open Go.RowKit Go.Proofs.YtfnphepiopncbaaDoorW.PrintWords Go.Proofs.YtfnphepiopncbaaDoor.Srt
open Go.Proofs.YtfnphepiopncbaaDoor.PPickSound (S45 z45 k45 k45_mk)
open Go.Proofs.YtfnphepiopncbaaDoor.Heads (kI seqOf kv)
set_option linter.unusedVariables false
set_option linter.unusedSimpArgs false

set_option maxHeartbeats 2000000 in
set_option maxRecDepth 100000 in
theorem nested_walk (T K P N S : Int) (A : Option Addr) (c : Nat) (l : List Int) (A2 : Option Addr) (c2 : Nat) (sn : List Int) (k part : Int) (A3 : Option Addr) (c3 : Nat) (al : List Bool) (w : World) (hA : kI.C w A l.length l) (hB : kI.C w A2 sn.length sn) (hD : Kd.bool.C w A3 al.length al) (hF : Fits w l sn al) :
    Calls Tryd.prog 11 #[.agg #[.int .i64 T, .int .i64 K, .int .i64 P, .int .i64 N, .int .u64 S], .slice A l.length c, .slice A2 sn.length c2, .int .i64 k, .int .i64 part, .slice A3 al.length c3] w (Yes w) := by
  obtain ⟨n, hn⟩ : ∃ n, n = l.length := ⟨_, rfl⟩
  obtain ⟨m, hm⟩ : ∃ m, m = sn.length := ⟨_, rfl⟩
  have HWK : Aside0 (∀ W, Below w.heap.size w W → Calls Tryd.prog 12 #[] W (fun e w' => e = .returned (.bool true) ∧ Below W.heap.size W w')) := ⟨fun W hb => works_calls W (hF.laid.move hb)⟩
  have hC1 : ∀ W, Below w.heap.size w W → Calls Tryd.prog 16 #[.agg #[.int .i64 T, .int .i64 K, .int .i64 P, .int .i64 N, .int .u64 S], .slice A l.length c, .slice A2 sn.length c2, .slice A3 al.length c3] W (Gives W (chancesR ⟨T, K, P, N, S⟩ l sn al) (errR ⟨T, K, P, N, S⟩)) := fun W hb => gives_calls T K P N S A c l A2 c2 sn A3 c3 al W (Kd.C_below hA hb) (Kd.C_below hB hb) (Kd.C_below hD hb) (hF.move hb)
  have hC2 : ∀ W, Below w.heap.size w W → Calls Tryd.prog 16 #[.agg #[.int .i64 T, .int .i64 k, .int .i64 part, .int .i64 N, .int .u64 S], .slice A l.length c, .slice A2 sn.length c2, .slice A3 al.length c3] W (Gives W (chancesR ⟨T, k, part, N, S⟩ l sn al) (errR ⟨T, k, part, N, S⟩)) := fun W hb => gives_calls T k part N S A c l A2 c2 sn A3 c3 al W (Kd.C_below hA hb) (Kd.C_below hB hb) (Kd.C_below hD hb) (hF.move hb)
  have hnest := chancesR_nested T K P N S k part l sn al
  have her1 := errR_cases ⟨T, K, P, N, S⟩ l sn al
  have her2 := errR_cases ⟨T, k, part, N, S⟩ l sn al
  have hXl := chancesR_len ⟨T, K, P, N, S⟩ l sn al
  have hYl := chancesR_len ⟨T, k, part, N, S⟩ l sn al
  have hnb : l.length ≤ 1048576 := hF.ll
  obtain ⟨X, hX⟩ : ∃ X, chancesR ⟨T, K, P, N, S⟩ l sn al = X := ⟨_, rfl⟩
  obtain ⟨Y, hY⟩ : ∃ Y, chancesR ⟨T, k, part, N, S⟩ l sn al = Y := ⟨_, rfl⟩
  obtain ⟨e1, he1⟩ : ∃ e1, errR ⟨T, K, P, N, S⟩ = e1 := ⟨_, rfl⟩
  obtain ⟨e2, he2⟩ : ∃ e2, errR ⟨T, k, part, N, S⟩ = e2 := ⟨_, rfl⟩
  rw [hX, he1] at hC1 her1
  rw [hY, he2] at hC2 her2
  rw [hX, hY] at hnest
  rw [hX] at hXl
  rw [hY] at hYl
  obtain ⟨xl, hxl⟩ : ∃ xl, xl = X.length := ⟨_, rfl⟩
  obtain ⟨yl, hyl⟩ : ∃ yl, yl = Y.length := ⟨_, rfl⟩
  have HEQ : Aside0 (∀ W A c B c2, Chs W A X → Chs W B X → Calls Tryd.prog 18 #[.slice A X.length c, .slice B X.length c2] W (Says (.bool true) W)) := ⟨fun W A c B c2 h1 h2 => eqch_calls A c B c2 X W h1 h2 (by omega)⟩
  unfold Gives at hC1 hC2
  rw [← hn, ← hm, ← hxl] at hC1
  rw [← hn, ← hm, ← hyl] at hC2
  rw [← hxl] at HEQ
  rw [← hxl, ← hyl] at hnest
  have hxb : xl ≤ 1048576 := by omega
  have hyb : yl ≤ 1048576 := by omega
  have x1 : e1 = 100 → xl = 0 := fun h => by
    rcases her1 with h1 | h1
    · omega
    · rw [hxl, h1.2]; rfl
  have x2 : e2 = 100 → yl = 0 := fun h => by
    rcases her2 with h1 | h1
    · omega
    · rw [hyl, h1.2]; rfl
  have x3 : e1 = 0 ∨ e1 = 100 := by rcases her1 with h | h <;> omega
  have x4 : e2 = 0 ∨ e2 = 100 := by rcases her2 with h | h <;> omega
  have x5 : e1 = 0 → e2 = 0 → P ≤ part → (k = 0 ∨ (K ≠ 0 ∧ K ≤ k)) → xl ≤ yl ∧ X = Y.take xl := fun h1 h2 h3 h4 => by
    refine hnest ?_ ?_ h3 h4
    · rcases her1 with h | h
      · exact h.2
      · omega
    · rcases her2 with h | h
      · exact h.2
      · omega
  have HC1 := Aside0.mk hC1
  have HC2 := Aside0.mk hC2
  have X1 := Aside0.mk x1
  have X2 := Aside0.mk x2
  have X5 := Aside0.mk x5
  rw [← hn, ← hm]
  obtain ⟨i0, hi0, _, hsz0, _⟩ := info_parts infoCh
  have HCUT : Aside0 (∀ (A : Option Addr) (c : Nat), yl ≤ c → xl ≤ yl → ∀ W : World, (Instr.slice 32 (.slice A yl c) none (some (.int .i64 xl)) none).run Tryd.prog W = .ok (.slice A xl c) W) := ⟨fun A c hc hx => cut_hi (P := Tryd.prog) 32 45 .i64 Tryd.underlying32 hi0 A yl c (xl : Int) (by omega) (by omega)⟩
  have HXL := Aside0.mk hxl
  clear hA hB hD hF hn hm hC1 hC2 hnest her1 her2 hXl hYl hnb hX hY he1 he2 hxl hyl x1 x2 x5 hi0 hsz0
  obtain ⟨bx, hbx⟩ : ∃ bx, bx = w.heap.size := ⟨_, rfl⟩
  go_enter Tryd.func11, Tryd.ntmps11
  go_upto_region 1 with fail
  rw [← hbx]
  refine name_world (X := fun w1 => Code.wp _ _ _ _ w1) fun w1 hw1 => ?_
  have hp1 : PBlk w1 bx T K P N S := by rw [hw1, hbx]; exact PBlk.new w T K P N S
  have hb1 : Below w.heap.size w w1 := by rw [hw1]; exact below_alloc (Below.refl _ _) _
  have HP1 := Aside0.mk hp1
  have HB1 := Aside0.mk hb1
  clear hw1 hp1 hb1 hbx
  go_upto_region 2 with (first | (go_at_call 12; (with_reducible refine Calls.mono (HWK.out _ HB1.out) ?_); rintro e w2 ⟨rfl, hb2⟩) | fail)
  have HP2 := Aside0.mk (HP1.out.move hb2)
  have HB2 := Aside0.mk (below_then HB1.out HB1.out.size hb2)
  clear hb2 HWK HP1 HB1
  have y0 := HP2.out.box.c0
  have y1 := HP2.out.box.c1
  have y2 := HP2.out.box.c2
  have y3 := HP2.out.box.c3
  have y4 := HP2.out.box.c4
  go_upto_region 5 with fail
  obtain ⟨bq, hbq⟩ : ∃ bq, bq = w2.heap.size := ⟨_, rfl⟩
  rw [← hbq]
  refine name_world (X := fun w1 => Code.wp _ _ _ _ w1) fun w3 hw3 => ?_
  have hq3 : PBlk w3 bq T k part N S := by
    rw [hw3, hbq]
    exact blk_new w2 _
  have hb23 : Below w2.heap.size w2 w3 := by
    rw [hw3]
    exact below_alloc (Below.refl _ _) _
  have HQ3 := Aside0.mk hq3
  have HP3 := Aside0.mk (HP2.out.move hb23)
  have HB3 := Aside0.mk (below_then HB2.out HB2.out.size hb23)
  clear hw3 hq3 hb23 hbq HP2 HB2 y0 y1 y2 y3 y4
  have y0 := HP3.out.box.c0
  have y1 := HP3.out.box.c1
  have y2 := HP3.out.box.c2
  have y3 := HP3.out.box.c3
  have y4 := HP3.out.box.c4
  go_upto_region 6 with (first | (go_at_call 16; (with_reducible refine Calls.mono (HC1.out _ HB3.out) ?_); rintro e w4 ⟨A9, c9, rfl, hc9, h9, hb9⟩) | fail)
  have H9 := Aside0.mk h9
  have HB4 := Aside0.mk (below_then HB3.out HB3.out.size hb9)
  have HP4 := Aside0.mk (HP3.out.move hb9)
  have HQ4 := Aside0.mk (HQ3.out.move hb9)
  clear h9 hb9 y0 y1 y2 y3 y4 HP3 HQ3
  have y0 := HQ4.out.box.c0
  have y1 := HQ4.out.box.c1
  have y2 := HQ4.out.box.c2
  have y3 := HQ4.out.box.c3
  have y4 := HQ4.out.box.c4
  go_upto_region 7 with (first | (go_at_call 16; (with_reducible refine Calls.mono (HC2.out _ HB4.out) ?_); rintro e w5 ⟨A10, c10, rfl, hc10, h10, hb10⟩) | fail)
  have H9b := Aside0.mk (H9.out.below hb10)
  have H10 := Aside0.mk h10
  have HC10 := Aside0.mk hc10
  have HB5 := Aside0.mk (below_then HB4.out HB4.out.size hb10)
  have hp5 := HP4.out.move hb10
  have hq5 := HQ4.out.move hb10
  clear h10 hb10 hc9 hc10 y0 y1 y2 y3 y4 HC1 HC2 HP4 HQ4 H9
  have y1 := hp5.box.c1
  have y2 := hp5.box.c2
  have z1 := hq5.box.c1
  have z2 := hq5.box.c2
  clear hp5 hq5
  rcases x3 with rfl | rfl
  · rcases x4 with rfl | rfl
    · by_cases g1 : part < P
      · go_wp2_with fail
        go_ret
        exact ⟨rfl, HB5.out⟩
      · by_cases g2 : k = 0
        · subst g2
          have h5 := X5.out rfl rfl (by omega) (by omega)
          have hx5 := h5.1
          have HE := Aside0.mk (HEQ.out w5 A9 c9 A10 c10 H9b.out (by have h6 := H10.out.take xl; rwa [← h5.2] at h6))
          have hcut := HCUT.out A10 c10 HC10.out hx5
          clear h5 HCUT
          go_wp2_with (first | (go_at_call 18; (with_reducible refine Calls.mono HE.out ?_); rintro e w9 ⟨rfl, q9, rfl⟩) | fail)
          go_ret
          exact ⟨rfl, pw_below_drewN HB5.out _⟩
        · have g2' : (k != 0) = true := by simpa using g2
          by_cases g3 : K = 0
          · subst g3
            go_wp2_with fail
            go_ret
            exact ⟨rfl, HB5.out⟩
          · have g3' : (K == 0) = false := by simpa using g3
            by_cases g4 : k < K
            · go_wp2_with fail
              go_ret
              exact ⟨rfl, HB5.out⟩
            · have g4' : decide (k < K) = false := by simpa using g4
              have h5 := X5.out rfl rfl (by omega) (by omega)
              have hx5 := h5.1
              have HE := Aside0.mk (HEQ.out w5 A9 c9 A10 c10 H9b.out (by have h6 := H10.out.take xl; rwa [← h5.2] at h6))
              have hcut := HCUT.out A10 c10 HC10.out hx5
              clear h5 HCUT
              go_wp2_with (first | (go_at_call 18; (with_reducible refine Calls.mono HE.out ?_); rintro e w9 ⟨rfl, q9, rfl⟩) | fail)
              go_ret
              exact ⟨rfl, pw_below_drewN HB5.out _⟩
    · obtain rfl := X2.out rfl
      go_wp2_with fail
      go_ret
      exact ⟨rfl, HB5.out⟩
  · obtain rfl := X1.out rfl
    rcases x4 with rfl | rfl
    · go_wp2_with fail
      go_ret
      exact ⟨rfl, HB5.out⟩
    · obtain rfl := X2.out rfl
      go_wp2_with fail
      go_ret
      exact ⟨rfl, HB5.out⟩
#print axioms nested_walk
end Go.Proofs.YtfnphepiopncbaaDoor.Pick
