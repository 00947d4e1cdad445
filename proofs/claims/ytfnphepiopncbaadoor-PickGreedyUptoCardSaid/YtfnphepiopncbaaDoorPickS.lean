/- The walk of PickGreedy. Conditions: what the tables hold; the bulk. -/
import Derived.Test.YtfnphepiopncbaaDoorPickR
namespace Go.Proofs.YtfnphepiopncbaaDoor.Pick
open Go.RowKit Go.Proofs.YtfnphepiopncbaaDoorW.PrintWords Go.Proofs.YtfnphepiopncbaaDoor.Srt
open Go.Proofs.YtfnphepiopncbaaDoor.PPickSound (S45 z45 k45 k45_mk)
open Go.Proofs.YtfnphepiopncbaaDoor.Heads (kI seqOf kv)
set_option linter.unusedVariables false
set_option linter.unusedSimpArgs false

theorem PBlk.top {w : World} {b : Nat} {T K P N S : Int} (h : PBlk w b T K P N S) (u : Int) : PBlk (w.setCell ⟨b, 1, none⟩ (.int .i64 u)) b T u P N S := blk_put h 1 _ (by simp)
set_option maxHeartbeats 4000000 in
set_option maxRecDepth 100000 in
theorem greedy_walk (T K P N S : Int) (A : Option Addr) (c : Nat) (l : List Int) (pos : Int) (A3 : Option Addr) (c3 : Nat) (al : List Bool) (w : World) (hA : kI.C w A l.length l) (hD : Kd.bool.C w A3 al.length al) (hF : Fits w l [] al) :
    Calls Tryd.prog 8 #[.agg #[.int .i64 T, .int .i64 K, .int .i64 P, .int .i64 N, .int .u64 S], .slice A l.length c, .int .i64 pos, .slice A3 al.length c3] w (Yes w) := by
  obtain ⟨K1, hK1⟩ : ∃ K1 : Int, K1 = if T = 0 then K else 1 := ⟨_, rfl⟩
  have hTK : (T != 0) = false ∧ K1 = K ∨ (T != 0) = true ∧ K1 = 1 := by
    by_cases h : T = 0
    · exact .inl ⟨by simp [h], by rw [hK1, if_pos h]⟩
    · exact .inr ⟨by simp [h], by rw [hK1, if_neg h]⟩
  have hone : T = 0 ∨ K1 = 1 := by
    by_cases h : T = 0
    · exact .inl h
    · exact .inr (by rw [hK1, if_neg h])
  clear hK1
  have HWK : Aside0 (∀ W, Below w.heap.size w W → Calls Tryd.prog 12 #[] W (fun e w' => e = .returned (.bool true) ∧ Below W.heap.size W w')) := ⟨fun W hb => works_calls W (hF.laid.move hb)⟩
  have hcn : kI.C w none (List.length (α := Int) []) [] := ⟨rfl, by simp, fun h => by simp at h⟩
  have hC2 : ∀ W, Below w.heap.size w W → Calls Tryd.prog 22 #[.agg #[.int .i64 T, .int .i64 K1, .int .i64 P, .int .i64 256, .int .u64 S], .slice A l.length c, .slice none (List.length (α := Int) []) 0, .int .i64 pos, .slice A3 al.length c3] W (fun e w' => e = .returned (.tuple #[.int .i64 (chosen ⟨T, K1, P, 256, S⟩ l [] pos al), .int .i64 (errR ⟨T, K1, P, 256, S⟩)]) ∧ Below W.heap.size W w') := fun W hb => choose_calls ⟨T, K1, P, 256, S⟩ A c l none 0 [] pos A3 c3 al W (Kd.C_below hA hb) (Kd.C_below hcn hb) (Kd.C_below hD hb) (hF.move hb)
  have hCK : ∀ W, Calls Tryd.prog 30 #[.agg #[.int .i64 T, .int .i64 K1, .int .i64 P, .int .i64 256, .int .u64 S]] W (fun e w' => e = .returned (.int .i64 (errR ⟨T, K1, P, 256, S⟩)) ∧ Below W.heap.size W w') := fun W => by
    unfold errR
    by_cases hp : Par.ok ⟨T, K1, P, 256, S⟩
    · rw [if_pos hp]; exact check_ok ⟨T, K1, P, 256, S⟩ W hp
    · rw [if_neg hp]; exact check_no ⟨T, K1, P, 256, S⟩ W hp
  have her := errR_cases ⟨T, K1, P, 256, S⟩ l [] al
  have hbest := chosen_best ⟨T, K1, P, 256, S⟩ hone rfl
  have hnb : l.length ≤ 1048576 := hF.ll
  obtain ⟨n, hn⟩ : ∃ n, n = l.length := ⟨_, rfl⟩
  obtain ⟨er, he⟩ : ∃ er, errR ⟨T, K1, P, 256, S⟩ = er := ⟨_, rfl⟩
  obtain ⟨t, ht⟩ : ∃ t, chosen ⟨T, K1, P, 256, S⟩ l [] pos al = t := ⟨_, rfl⟩
  have HEND : Aside0 (er = 0 → ∀ b, Best l al n b → (∀ j : Nat, j < n → -16777216 ≤ l.getD j 0 ∧ l.getD j 0 ≤ 16777216) → t = if b < 0 then 0 else b) := ⟨fun h b hb hr => by
    rw [← ht]
    refine hbest ?_ l pos al b (by rw [← hn]; exact hb) (by rw [← hn]; exact hr)
    rcases her with h2 | h2
    · exact h2.2
    · omega⟩
  have x1 : er = 0 ∨ (er = 100 ∧ t = 0) := by
    rcases her with h | h
    · exact .inl (by rw [← he]; exact h.1)
    · refine .inr ⟨by rw [← he]; exact h.1, ?_⟩
      rw [← ht]
      unfold chosen
      rw [h.2]
      rfl
  rw [ht, he] at hC2
  rw [he] at hCK
  rw [← hn] at hC2 hA hnb
  simp only [List.length_nil] at hC2
  have HLM : Aside0 (∀ (i : Nat) W, Below w.heap.size w W → Calls Tryd.prog 31 #[.slice A3 al.length c3, .int .i64 i] W (Says (.bool (mayb al i)) W)) := ⟨fun i W hb => lmay_calls c3 A3 al i W (Kd.C_below hD hb)⟩
  have HC2 := Aside0.mk hC2
  have HCK := Aside0.mk hCK
  have HN := Aside0.mk hn
  have HA := Aside0.mk hA
  rw [← hn]
  obtain ⟨bx, hbx⟩ : ∃ bx, bx = w.heap.size := ⟨_, rfl⟩
  clear hA hD hF her hbest hn he ht hC2 hCK hcn hone
  go_enter Tryd.func8, Tryd.ntmps8
  go_upto_region 1 with fail
  rw [← hbx]
  refine name_world (X := fun w1 => Code.wp _ _ _ _ w1) fun w1 hw1 => ?_
  have hp1 : PBlk w1 bx T K P N S := by rw [hw1, hbx]; exact PBlk.new w T K P N S
  have hb1 : Below w.heap.size w w1 := by rw [hw1]; exact below_alloc (Below.refl _ _) _
  have HP1 := Aside0.mk hp1
  have HB1 := Aside0.mk hb1
  have HBX : Aside0 (w.heap.size ≤ bx) := ⟨by rw [hbx]; exact Nat.le_refl _⟩
  clear hw1 hp1 hb1 hbx
  go_upto_region 2 with (first | (go_at_call 12; (with_reducible refine Calls.mono (HWK.out _ HB1.out) ?_); rintro e w2 ⟨rfl, hb2⟩) | fail)
  have HP2 := Aside0.mk (HP1.out.move hb2)
  have HB2 := Aside0.mk (below_then HB1.out HB1.out.size hb2)
  clear hb2 HWK HP1 HB1
  have y3 := HP2.out.box.c3
  have y9 : w2.frozen? ⟨bx, 3, none⟩ = false := blk_frozen HP2.out 3
  go_upto_region 3 with fail
  refine name_world (X := fun w1 => Code.wp _ _ _ _ w1) fun w3 hw3 => ?_
  have hp3 : PBlk w3 bx T K P 256 S := by rw [hw3]; exact HP2.out.pen 256
  have hb3 : Below w.heap.size w w3 := by rw [hw3]; exact HB2.out.setCell (p := ⟨bx, 3, none⟩) HBX.out _
  have HP3 := Aside0.mk hp3
  have HB3 := Aside0.mk hb3
  clear hw3 hp3 hb3 y3 y9 HP2 HB2
  have y0 := HP3.out.box.c0
  have y1 := HP3.out.box.c1
  have y9 : w3.frozen? ⟨bx, 1, none⟩ = false := blk_frozen HP3.out 1
  rcases hTK with ⟨hT, hK⟩ | ⟨hT, hK⟩
  all_goals go_upto_region 5 with fail
  all_goals refine name_world (X := fun w1 => Code.wp _ _ _ _ w1) fun w4 hw4 => ?_
  all_goals have hp4 : PBlk w4 bx T K1 P 256 S := by first | (rw [hw4, hK]; exact HP3.out) | (rw [hw4, hK]; exact HP3.out.top 1)
  all_goals have hb4 : Below w.heap.size w w4 := by first | (rw [hw4]; exact HB3.out) | (rw [hw4]; exact HB3.out.setCell (p := ⟨bx, 1, none⟩) HBX.out _)
  all_goals (
    have HP4 := Aside0.mk hp4
    have HB4 := Aside0.mk hb4
    clear hw4 hp4 hb4 y0 y1 y9 hT hK HP3 HB3
    have y0 := HP4.out.box.c0
    have y1 := HP4.out.box.c1
    have y2 := HP4.out.box.c2
    have y3 := HP4.out.box.c3
    have y4 := HP4.out.box.c4
    go_upto_region 6 with (first | (go_at_call 22; (with_reducible refine Calls.mono (HC2.out _ HB4.out) ?_); rintro e w5 ⟨rfl, hb5⟩) | fail)
    have HB5 := Aside0.mk (below_then HB4.out HB4.out.size hb5)
    have HP5 := Aside0.mk (HP4.out.move hb5)
    clear hb5 y0 y1 y2 y3 y4 HP4 HB4
    have y0 := HP5.out.box.c0
    have y1 := HP5.out.box.c1
    have y2 := HP5.out.box.c2
    have y3 := HP5.out.box.c3
    have y4 := HP5.out.box.c4
    rcases x1 with rfl | ⟨rfl, rfl⟩
    · go_wp2_with (first | (go_at_call 30; (with_reducible refine Calls.mono (HCK.out _) ?_); rintro e w6 ⟨rfl, hb6⟩) | fail)
      have HB6 := Aside0.mk (below_then HB5.out HB5.out.size hb6)
      clear hb6 y0 y1 y2 y3 y4
      go_loopg [12, 13] n (fun gk v12 v13 wr => ∃ (i : Nat) (b : Int), v13 = .int .i64 i ∧ v12 = .int .i64 b ∧ i ≤ n ∧ n ≤ i + gk ∧ Aside0 (Best l al i b) ∧ Aside0 (∀ j : Nat, j < i → -16777216 ≤ l.getD j 0 ∧ l.getD j 0 ≤ 16777216) ∧ Aside0 (Below w.heap.size w wr))
      case atStart => exact ⟨0, -1, rfl, rfl, by omega, by omega, ⟨Best.zero _ _⟩, ⟨fun j hj => by omega⟩, HB6⟩
      case round =>
        obtain ⟨i, b, rfl, rfl, hi, hg, HBE, HI, HBr⟩ := hrel
        by_cases hlt : i < n
        · obtain ⟨ad, rfl, h7⟩ := C_nat (Kd.C_below HA.out HBr.out) i hlt
          obtain ⟨s, hs2⟩ : ∃ s, l.getD i 0 = s := ⟨_, rfl⟩
          rw [hs2] at h7
          have HS := Aside0.mk hs2
          clear hs2
          by_cases g1 : 16777216 < s
          · go_wp2_with fail
            go_ret
            exact ⟨rfl, HBr.out⟩
          · by_cases g2 : s < -16777216
            · go_wp2_with fail
              go_ret
              exact ⟨rfl, HBr.out⟩
            · have HRG : Aside0 (∀ j : Nat, j < i + 1 → -16777216 ≤ l.getD j 0 ∧ l.getD j 0 ≤ 16777216) := ⟨fun j hj => by
                rcases Nat.lt_or_ge j i with h | h
                · exact HI.out j h
                · obtain rfl : j = i := by omega
                  rw [HS.out]
                  omega⟩
              have hm1 := fun q => HLM.out i (wr.drewN q) (pw_below_drewN HBr.out q)
              rcases hmb : mayb al i with _ | _
              · rw [hmb] at hm1
                have HM1 := Aside0.mk hm1
                have HKEEP := Aside0.mk (HBE.out.keep hmb)
                clear hm1 hmb
                go_wp2_with fail
                go_quiet (first | (go_at_call 31; refine Calls.quiet_of (HM1.out _)) | fail)
                go_wp2_with fail
                go_roundg (n - (i + 1))
                case measure => omega
                case rel => exact ⟨i + 1, b, by first | rfl | (simp; done), rfl, by omega, by omega, HKEEP, HRG, ⟨pw_below_drewN HBr.out _⟩⟩
              · rw [hmb] at hm1
                have HM1 := Aside0.mk hm1
                have HMB := Aside0.mk hmb
                clear hm1 hmb
                by_cases hb0 : b = -1
                · subst hb0
                  have HKEEP := Aside0.mk (HBE.out.first HMB.out)
                  go_wp2_with fail
                  go_quiet (first | (go_at_call 31; refine Calls.quiet_of (HM1.out _)) | fail)
                  go_wp2_with fail
                  go_roundg (n - (i + 1))
                  case measure => omega
                  case rel => exact ⟨i + 1, i, by first | rfl | (simp; done), rfl, by omega, by omega, HKEEP, HRG, ⟨pw_below_drewN HBr.out _⟩⟩
                · obtain ⟨k, rfl⟩ : ∃ k : Nat, b = (k : Int) := by
                    rcases HBE.out with h | ⟨k, h, _⟩
                    · exact absurd h.1 hb0
                    · exact ⟨k, h⟩
                  have hki := HBE.out.lt
                  have hkn : k < n := by omega
                  obtain ⟨ad2, e2, h8⟩ := C_nat (Kd.C_below HA.out HBr.out) k hkn
                  cases e2
                  obtain ⟨x, hx2⟩ : ∃ x, l.getD k 0 = x := ⟨_, rfl⟩
                  rw [hx2] at h8
                  have HX := Aside0.mk hx2
                  have hk0 : decide ((k : Int) < 0) = false := by simp
                  clear hx2 hb0
                  by_cases hxs : x < s
                  · have HKEEP := Aside0.mk (HBE.out.more HMB.out (by rw [HX.out, HS.out]; exact hxs))
                    have hxs2 : decide (x < s) = true := by simpa using hxs
                    go_wp2_with fail
                    go_quiet (first | (go_at_call 31; refine Calls.quiet_of (HM1.out _)) | fail)
                    go_wp2_with fail
                    go_roundg (n - (i + 1))
                    case measure => omega
                    case rel => exact ⟨i + 1, i, by first | rfl | (simp; done), rfl, by omega, by omega, HKEEP, HRG, ⟨pw_below_drewN HBr.out _⟩⟩
                  · have HKEEP := Aside0.mk (HBE.out.less (by rw [HX.out, HS.out]; exact hxs))
                    have hxs2 : decide (x < s) = false := by simpa using hxs
                    go_wp2_with fail
                    go_quiet (first | (go_at_call 31; refine Calls.quiet_of (HM1.out _)) | fail)
                    go_wp2_with fail
                    go_roundg (n - (i + 1))
                    case measure => omega
                    case rel => exact ⟨i + 1, k, by first | rfl | (simp; done), rfl, by omega, by omega, HKEEP, HRG, ⟨pw_below_drewN HBr.out _⟩⟩
        · obtain rfl : i = n := by omega
          have hend := HEND.out (by simp) b HBE.out HI.out
          by_cases hb0 : b < 0
          · rw [if_pos hb0] at hend
            subst hend
            go_wp2_with fail
            go_ret
            exact ⟨rfl, HBr.out⟩
          · rw [if_neg hb0] at hend
            subst hend
            go_wp2_with fail
            go_ret
            exact ⟨rfl, HBr.out⟩
    · go_wp2_with (first | (go_at_call 30; (with_reducible refine Calls.mono (HCK.out _) ?_); rintro e w6 ⟨rfl, hb6⟩) | fail)
      go_ret
      exact ⟨rfl, below_then HB5.out HB5.out.size hb6⟩)
#print axioms greedy_walk
end Go.Proofs.YtfnphepiopncbaaDoor.Pick
