/- The walk of PickChances. Conditions: what the tables hold; the bulk. -/
import Derived.Test.YtfnphepiopncbaaDoorPkE
import Derived.Test.YtfnphepiopncbaaDoorPickMk
namespace Go.Proofs.YtfnphepiopncbaaDoor.Pick
open Go.RowKit Go.Proofs.YtfnphepiopncbaaDoorW.PrintWords Go.Proofs.YtfnphepiopncbaaDoor.Srt
open Go.Proofs.YtfnphepiopncbaaDoor.PPickChooses (S45 z45 k45 k45_mk)
open Go.Proofs.YtfnphepiopncbaaDoor.Heads (kI seqOf kv)
set_option linter.unusedVariables false
set_option linter.unusedSimpArgs false

/-- The parameters' whole block. -/
abbrev PBlk (w : World) (b : Nat) (T K P N S : Int) : Prop := w.heap[b]? = some (.cells #[.int .i64 T, .int .i64 K, .int .i64 P, .int .i64 N, .int .u64 S] 24 (0, 0))
theorem PBlk.box {w : World} {b : Nat} {T K P N S : Int} (h : PBlk w b T K P N S) : PBox w b T K P N S := ⟨blk_cell h 0, blk_cell h 1, blk_cell h 2, blk_cell h 3, blk_cell h 4⟩
theorem PBlk.new (w : World) (T K P N S : Int) : PBlk (w.alloc (.cells #[.int .i64 T, .int .i64 K, .int .i64 P, .int .i64 N, .int .u64 S] 24)) w.heap.size T K P N S := blk_new w _
theorem PBlk.move {w w' : World} {b : Nat} {T K P N S : Int} (h : PBlk w b T K P N S) (hb : Below w.heap.size w w') : PBlk w' b T K P N S := blk_below h hb
/-- What the document's Chances answers. -/
theorem ref_calls (T K P N S : Int) (A : Option Addr) (c : Nat) (l : List Int) (A2 : Option Addr) (c2 : Nat) (sn : List Int) (A3 : Option Addr) (c3 : Nat) (al : List Bool) (w : World) (hA : kI.C w A l.length l) (hB : kI.C w A2 sn.length sn) (hD : Kd.bool.C w A3 al.length al) (hcA : l.length ≤ c) (hcB : sn.length ≤ c2) (hcD : al.length ≤ c3) (hl : l.length ≤ 1048576) (hs : sn.length ≤ 1048576) :
    Calls Tryd.prog 17 #[.agg #[.int .i64 T, .int .i64 K, .int .i64 P, .int .i64 N, .int .u64 S], .slice A l.length c, .slice A2 sn.length c2, .slice A3 al.length c3] w (Gives w (chancesR ⟨T, K, P, N, S⟩ l sn al) (errR ⟨T, K, P, N, S⟩)) := by
  refine Calls.mono (PPickChooses.augurref10_Chances.calls (sn.length + 10 * l.length + 200) T K P N S A c l A2 c2 sn A3 c3 al _ _ w hA hcA hB hcB hD hcD (Chances_f T K P N S l sn al hl (by omega) _ (Nat.le_refl _))) ?_
  rintro e w' ⟨v, rfl, hR, hb⟩
  obtain ⟨A9, c9, rfl, hc, hch, _⟩ := Chs.of_row (row_flat hR)
  exact ⟨A9, c9, rfl, hc, hch, hb⟩
/-- What the three marked lists are, and that they stay. -/
structure Three (w : World) (x y z : Value) (l sn : List Int) (al : List Bool) : Prop where
  x : ∃ A c, x = .slice A l.length c ∧ l.length + 64 ≤ c ∧ kI.C w A (l.length + 64) (behind64 mkW l)
  y : ∃ A c, y = .slice A sn.length c ∧ sn.length + 64 ≤ c ∧ kI.C w A (sn.length + 64) (behind64 mkI sn)
  z : ∃ A c, z = .slice A al.length c ∧ al.length + 64 ≤ c ∧ Kd.bool.C w A (al.length + 64) (behind64 mkB al)
set_option maxHeartbeats 2000000 in
set_option maxRecDepth 100000 in
theorem chances_walk (T K P N S : Int) (A : Option Addr) (c : Nat) (l : List Int) (A2 : Option Addr) (c2 : Nat) (sn : List Int) (A3 : Option Addr) (c3 : Nat) (al : List Bool) (w : World) (hA : kI.C w A l.length l) (hB : kI.C w A2 sn.length sn) (hD : Kd.bool.C w A3 al.length al) (hcA : l.length ≤ c) (hcB : sn.length ≤ c2) (hcD : al.length ≤ c3) (hF : Fits w l sn al) (hs : sn.length ≤ 1048576) (hal : al.length ≤ 1048576) :
    Calls Tryd.prog 3 #[.agg #[.int .i64 T, .int .i64 K, .int .i64 P, .int .i64 N, .int .u64 S], .slice A l.length c, .slice A2 sn.length c2, .slice A3 al.length c3] w (Yes w) := by
  have hnb : l.length ≤ 1048576 := hF.ll
  have HWK : Aside0 (∀ W, Below w.heap.size w W → Calls Tryd.prog 12 #[] W (fun e w' => e = .returned (.bool true) ∧ Below W.heap.size W w')) := ⟨fun W hb => works_calls W (hF.laid.move hb)⟩
  have hMW : ∀ W, Below w.heap.size w W → Calls Tryd.prog 13 #[.slice A l.length c] W (Marked kI mkW W l) := fun W hb => markw_calls A c l W (Kd.C_below hA hb) hnb
  have hMI : ∀ W, Below w.heap.size w W → Calls Tryd.prog 14 #[.slice A2 sn.length c2] W (Marked kI mkI W sn) := fun W hb => marki_calls A2 c2 sn W (Kd.C_below hB hb) hs
  have hMB : ∀ W, Below w.heap.size w W → Calls Tryd.prog 15 #[.slice A3 al.length c3] W (Marked Kd.bool mkB W al) := fun W hb => markb_calls A3 c3 al W (Kd.C_below hD hb) hal
  have hCH : ∀ W A7 c7 A8 c8 A9 c9, Below w.heap.size w W → kI.C W A7 l.length l → kI.C W A8 sn.length sn → Kd.bool.C W A9 al.length al → Calls Tryd.prog 16 #[.agg #[.int .i64 T, .int .i64 K, .int .i64 P, .int .i64 N, .int .u64 S], .slice A7 l.length c7, .slice A8 sn.length c8, .slice A9 al.length c9] W (Gives W (chancesR ⟨T, K, P, N, S⟩ l sn al) (errR ⟨T, K, P, N, S⟩)) := fun W A7 c7 A8 c8 A9 c9 hb h7 h8 h9 => gives_calls T K P N S A7 c7 l A8 c8 sn A9 c9 al W h7 h8 h9 (hF.move hb)
  have hRF : ∀ W, Below w.heap.size w W → Calls Tryd.prog 17 #[.agg #[.int .i64 T, .int .i64 K, .int .i64 P, .int .i64 N, .int .u64 S], .slice A l.length c, .slice A2 sn.length c2, .slice A3 al.length c3] W (Gives W (chancesR ⟨T, K, P, N, S⟩ l sn al) (errR ⟨T, K, P, N, S⟩)) := fun W hb => ref_calls T K P N S A c l A2 c2 sn A3 c3 al W (Kd.C_below hA hb) (Kd.C_below hB hb) (Kd.C_below hD hb) hcA hcB hcD hnb hs
  have hSW : ∀ W A7 c7, Below w.heap.size w W → l.length + 64 ≤ c7 → kI.C W A7 (l.length + 64) (behind64 mkW l) → Calls Tryd.prog 19 #[.slice A7 l.length c7, .slice A l.length c] W (Says (.bool true) W) := fun W A7 c7 hb h1 h2 => stillw_calls A7 c7 A c l W h2 h1 (Kd.C_below hA hb) hnb
  have hSI : ∀ W A7 c7, Below w.heap.size w W → sn.length + 64 ≤ c7 → kI.C W A7 (sn.length + 64) (behind64 mkI sn) → Calls Tryd.prog 20 #[.slice A7 sn.length c7, .slice A2 sn.length c2] W (Says (.bool true) W) := fun W A7 c7 hb h1 h2 => stilli_calls A7 c7 A2 c2 sn W h2 h1 (Kd.C_below hB hb) hs
  have hSB : ∀ W A7 c7, Below w.heap.size w W → al.length + 64 ≤ c7 → Kd.bool.C W A7 (al.length + 64) (behind64 mkB al) → Calls Tryd.prog 21 #[.slice A7 al.length c7, .slice A3 al.length c3] W (Says (.bool true) W) := fun W A7 c7 hb h1 h2 => stillb_calls A7 c7 A3 c3 al W h2 h1 (Kd.C_below hD hb) hal
  have hXl := chancesR_len ⟨T, K, P, N, S⟩ l sn al
  obtain ⟨X, hX⟩ : ∃ X, chancesR ⟨T, K, P, N, S⟩ l sn al = X := ⟨_, rfl⟩
  obtain ⟨er, her⟩ : ∃ er, errR ⟨T, K, P, N, S⟩ = er := ⟨_, rfl⟩
  rw [hX, her] at hCH hRF
  rw [hX] at hXl
  have HEQ : Aside0 (∀ W A c B c2, Chs W A X → Chs W B X → Calls Tryd.prog 18 #[.slice A X.length c, .slice B X.length c2] W (Says (.bool true) W)) := ⟨fun W A c B c2 h1 h2 => eqch_calls A c B c2 X W h1 h2 (by omega)⟩
  obtain ⟨xl, hxl⟩ : ∃ xl, xl = X.length := ⟨_, rfl⟩
  unfold Gives at hCH hRF
  rw [← hxl] at hCH hRF HEQ
  have HLW : Aside0 (∀ W A, kI.C W A (l.length + 64) (behind64 mkW l) → kI.C W A l.length l) := ⟨fun W A h => Marked.low h⟩
  have HLI : Aside0 (∀ W A, kI.C W A (sn.length + 64) (behind64 mkI sn) → kI.C W A sn.length sn) := ⟨fun W A h => Marked.low h⟩
  have HLB : Aside0 (∀ W A, Kd.bool.C W A (al.length + 64) (behind64 mkB al) → Kd.bool.C W A al.length al) := ⟨fun W A h => Marked.low h⟩
  unfold Marked at hMW hMI hMB
  obtain ⟨n, hn⟩ : ∃ n, n = l.length := ⟨_, rfl⟩
  obtain ⟨m, hm⟩ : ∃ m, m = sn.length := ⟨_, rfl⟩
  obtain ⟨a, ha⟩ : ∃ a, a = al.length := ⟨_, rfl⟩
  rw [← hn] at hMW hCH hRF hSW HLW ⊢
  rw [← hm] at hMI hCH hRF hSI HLI ⊢
  rw [← ha] at hMB hCH hRF hSB HLB ⊢
  have HMW := Aside0.mk hMW
  have HMI := Aside0.mk hMI
  have HMB := Aside0.mk hMB
  have HCH := Aside0.mk hCH
  have HRF := Aside0.mk hRF
  have HSW := Aside0.mk hSW
  have HSI := Aside0.mk hSI
  have HSB := Aside0.mk hSB
  obtain ⟨bx, hbx⟩ : ∃ bx, bx = w.heap.size := ⟨_, rfl⟩
  clear hA hB hD hF hs hal hcA hcB hcD hnb hMW hMI hMB hCH hRF hSW hSI hSB hXl hX her hxl hn hm ha
  go_enter Tryd.func3, Tryd.ntmps3
  go_upto_region 1 with fail
  rw [← hbx]
  refine name_world (X := fun w1 => Code.wp _ _ _ _ w1) fun w1 hw1 => ?_
  have hp1 : PBlk w1 bx T K P N S := by rw [hw1, hbx]; exact PBlk.new w T K P N S
  have hb1 : Below w.heap.size w w1 := by rw [hw1]; exact below_alloc (Below.refl _ _) _
  have HP1 := Aside0.mk hp1
  have HB1 := Aside0.mk hb1
  clear hw1 hp1 hb1 hbx
  go_upto_region 2 with (first | (go_at_call 12; (with_reducible refine Calls.mono (HWK.out _ HB1.out) ?_); rintro e w2 ⟨rfl, hb2⟩) | fail)
  have HP2 := Aside0.mk (HP1.out.move hb2)
  have HB2 := Aside0.mk (below_then HB1.out HB1.out.size hb2)
  clear hb2 HWK HP1 HB1
  go_upto_region 3 with (first | (go_at_call 13; (with_reducible refine Calls.mono (HMW.out _ HB2.out) ?_); rintro e w3 ⟨A7, c7, rfl, hc7, h7, hb3⟩) | fail)
  have HP3 := Aside0.mk (HP2.out.move hb3)
  have HB3 := Aside0.mk (below_then HB2.out HB2.out.size hb3)
  have H7 := Aside0.mk h7
  have HC7 := Aside0.mk hc7
  clear hb3 h7 hc7 HP2 HB2
  go_upto_region 4 with (first | (go_at_call 14; (with_reducible refine Calls.mono (HMI.out _ HB3.out) ?_); rintro e w4 ⟨A8, c8, rfl, hc8, h8, hb4⟩) | fail)
  have HP4 := Aside0.mk (HP3.out.move hb4)
  have HB4 := Aside0.mk (below_then HB3.out HB3.out.size hb4)
  have H7 := Aside0.mk (Kd.C_below H7.out hb4)
  have H8 := Aside0.mk h8
  have HC8 := Aside0.mk hc8
  clear hb4 h8 hc8 HP3 HB3
  go_upto_region 5 with (first | (go_at_call 15; (with_reducible refine Calls.mono (HMB.out _ HB4.out) ?_); rintro e w5 ⟨A9, c9, rfl, hc9, h9, hb5⟩) | fail)
  have HP5 := Aside0.mk (HP4.out.move hb5)
  have HB5 := Aside0.mk (below_then HB4.out HB4.out.size hb5)
  have H7 := Aside0.mk (Kd.C_below H7.out hb5)
  have H8 := Aside0.mk (Kd.C_below H8.out hb5)
  have H9 := Aside0.mk h9
  have HC9 := Aside0.mk hc9
  clear hb5 h9 hc9 HP4 HB4
  have y0 := HP5.out.box.c0
  have y1 := HP5.out.box.c1
  have y2 := HP5.out.box.c2
  have y3 := HP5.out.box.c3
  have y4 := HP5.out.box.c4
  go_upto_region 6 with (first | (go_at_call 16; (with_reducible refine Calls.mono (HCH.out _ A7 c7 A8 c8 A9 c9 HB5.out (HLW.out _ _ H7.out) (HLI.out _ _ H8.out) (HLB.out _ _ H9.out)) ?_); rintro e w6 ⟨A10, c10, rfl, hc10, h10, hb6⟩) | fail)
  have HP6 := Aside0.mk (HP5.out.move hb6)
  have HB6 := Aside0.mk (below_then HB5.out HB5.out.size hb6)
  have H7 := Aside0.mk (Kd.C_below H7.out hb6)
  have H8 := Aside0.mk (Kd.C_below H8.out hb6)
  have H9 := Aside0.mk (Kd.C_below H9.out hb6)
  have H10 := Aside0.mk h10
  clear hb6 h10 hc10 HP5 HB5 y0 y1 y2 y3 y4
  have y0 := HP6.out.box.c0
  have y1 := HP6.out.box.c1
  have y2 := HP6.out.box.c2
  have y3 := HP6.out.box.c3
  have y4 := HP6.out.box.c4
  go_upto_region 7 with (first | (go_at_call 17; (with_reducible refine Calls.mono (HRF.out _ HB6.out) ?_); rintro e w7 ⟨A11, c11, rfl, hc11, h11, hb7⟩) | fail)
  have HB7 := Aside0.mk (below_then HB6.out HB6.out.size hb7)
  have h7 := Kd.C_below H7.out hb7
  have h8 := Kd.C_below H8.out hb7
  have h9 := Kd.C_below H9.out hb7
  have HE := Aside0.mk (HEQ.out w7 A10 c10 A11 c11 (H10.out.below hb7) h11)
  have HS1 := Aside0.mk (fun q => HSW.out (w7.drewN q) A7 c7 (pw_below_drewN HB7.out q) HC7.out (Kd.C_below h7 (pw_below_drewN (Below.refl _ _) q)))
  have HS2 := Aside0.mk (fun q => HSI.out (w7.drewN q) A8 c8 (pw_below_drewN HB7.out q) HC8.out (Kd.C_below h8 (pw_below_drewN (Below.refl _ _) q)))
  have HS3 := Aside0.mk (fun q => HSB.out (w7.drewN q) A9 c9 (pw_below_drewN HB7.out q) HC9.out (Kd.C_below h9 (pw_below_drewN (Below.refl _ _) q)))
  clear hb7 h7 h8 h9 h11 hc11 y0 y1 y2 y3 y4 HP6 HB6 H7 H8 H9 H10 HSW HSI HSB HEQ HLW HLI HLB HMW HMI HMB HCH HRF HC7 HC8 HC9
  go_wp2_with (first | (go_at_call 18; (with_reducible refine Calls.mono HE.out ?_); rintro e w8 ⟨rfl, q8, rfl⟩) | (go_at_call 19; (with_reducible refine Calls.mono (HS1.out _) ?_); rintro e w9 ⟨rfl, q9, rfl⟩) | (go_at_call 20; (with_reducible refine Calls.mono (HS2.out _) ?_); rintro e w10 ⟨rfl, q10, rfl⟩) | (go_at_call 21; (with_reducible refine Calls.mono (HS3.out _) ?_); rintro e w11 ⟨rfl, q11, rfl⟩) | fail)
  go_ret
  exact ⟨rfl, pw_below_drewN HB7.out _⟩
#print axioms chances_walk
end Go.Proofs.YtfnphepiopncbaaDoor.Pick
