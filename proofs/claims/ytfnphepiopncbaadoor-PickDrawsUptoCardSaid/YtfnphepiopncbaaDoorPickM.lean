/- The walk of PickMoves. Conditions: what the tables hold; the bulk. -/
import Derived.Test.YtfnphepiopncbaaDoorPickK
namespace Go.Proofs.YtfnphepiopncbaaDoor.Pick
open Go.RowKit Go.Proofs.YtfnphepiopncbaaDoorW.PrintWords Go.Proofs.YtfnphepiopncbaaDoor.Srt
open Go.Proofs.YtfnphepiopncbaaDoor.PPickSound (S45 z45 k45 k45_mk)
open Go.Proofs.YtfnphepiopncbaaDoor.Heads (kI seqOf kv)
set_option linter.unusedVariables false
set_option linter.unusedSimpArgs false

/-- The parameters' whole block. -/
abbrev PBlk (w : World) (b : Nat) (T K P N S : Int) : Prop := w.heap[b]? = some (.cells #[.int .i64 T, .int .i64 K, .int .i64 P, .int .i64 N, .int .u64 S] 24 (0, 0))
theorem PBlk.box {w : World} {b : Nat} {T K P N S : Int} (h : PBlk w b T K P N S) : PBox w b T K P N S := ⟨blk_cell h 0, blk_cell h 1, blk_cell h 2, blk_cell h 3, blk_cell h 4⟩
theorem PBlk.new (w : World) (T K P N S : Int) : PBlk (w.alloc (.cells #[.int .i64 T, .int .i64 K, .int .i64 P, .int .i64 N, .int .u64 S] 24)) w.heap.size T K P N S := blk_new w _
theorem PBlk.move {w w' : World} {b : Nat} {T K P N S : Int} (h : PBlk w b T K P N S) (hb : Below w.heap.size w w') : PBlk w' b T K P N S := blk_below h hb
theorem PBlk.pen {w : World} {b : Nat} {T K P N S : Int} (h : PBlk w b T K P N S) (u : Int) : PBlk (w.setCell ⟨b, 3, none⟩ (.int .i64 u)) b T K P u S := blk_put h 3 _ (by simp)
theorem infoL : (Tryd.prog.info? 2).map (fun i => (i.zero, i.size, i.bytes)) = some (some (.int .i64 0), 1, 8) := by kernel_rfl
theorem take_nextI {l : List Int} {i : Nat} (h : i < l.length) : l.take (i + 1) = l.take i ++ [l.getD i 0] := by
  rw [List.take_add_one, List.getElem?_eq_getElem h, List.getD_eq_getElem?_getD, List.getElem?_eq_getElem h]
  rfl
set_option maxHeartbeats 2000000 in
set_option maxRecDepth 100000 in
theorem moves_walk (T K P N S : Int) (A : Option Addr) (c : Nat) (l : List Int) (A2 : Option Addr) (c2 : Nat) (sn : List Int) (B : Int) (A3 : Option Addr) (c3 : Nat) (al : List Bool) (w : World) (hA : kI.C w A l.length l) (hB : kI.C w A2 sn.length sn) (hD : Kd.bool.C w A3 al.length al) (hF : Fits w l sn al) :
    Calls Tryd.prog 9 #[.agg #[.int .i64 T, .int .i64 K, .int .i64 P, .int .i64 N, .int .u64 S], .slice A l.length c, .slice A2 sn.length c2, .int .i64 B, .slice A3 al.length c3] w (Yes w) := by
  obtain ⟨n, hn⟩ : ∃ n, n = l.length := ⟨_, rfl⟩
  obtain ⟨m, hm⟩ : ∃ m, m = sn.length := ⟨_, rfl⟩
  have HWK : Aside0 (∀ W, Below w.heap.size w W → Calls Tryd.prog 12 #[] W (fun e w' => e = .returned (.bool true) ∧ Below W.heap.size W w')) := ⟨fun W hb => works_calls W (hF.laid.move hb)⟩
  have HCH : Aside0 (∀ W A8 c8 l' A9 c9 sn', Below w.heap.size w W → l'.length = n → kI.C W A8 n l' → kI.C W A9 sn'.length sn' → Fits W l' sn' al → Calls Tryd.prog 16 #[.agg #[.int .i64 T, .int .i64 K, .int .i64 P, .int .i64 256, .int .u64 S], .slice A8 n c8, .slice A9 sn'.length c9, .slice A3 al.length c3] W (Gives W (chancesR ⟨T, K, P, 256, S⟩ l' sn' al) (errR ⟨T, K, P, 256, S⟩))) := ⟨fun W A8 c8 l' A9 c9 sn' hb hl hC hC2 hf => by
    rw [← hl] at hC ⊢
    exact gives_calls T K P 256 S A8 c8 l' A9 c9 sn' A3 c3 al W hC hC2 (Kd.C_below hD hb) hf⟩
  have hnb : n ≤ 1048576 := by rw [hn]; exact hF.ll
  rw [← hn] at hA ⊢
  obtain ⟨d, hd⟩ : ∃ d, B.tmod 8388608 = d := ⟨_, rfl⟩
  have hdr : -8388608 < d ∧ d < 8388608 := by rw [← hd]; exact ⟨Int.lt_tmod_of_pos B (by decide), Int.tmod_lt_of_pos B (by decide)⟩
  have d1 : wrap64 d = d := by unfold wrap64; omega
  have d2 : IntKind.i64.wrap d = d := by rw [IntWalk.i64_left]; exact d1
  have HF := Aside0.mk hF
  have HA := Aside0.mk hA
  have HB := Aside0.mk hB
  have HN := Aside0.mk hn
  have HM := Aside0.mk hm
  have HDR := Aside0.mk hdr
  rw [← hm]
  obtain ⟨bx, hbx⟩ : ∃ bx, bx = w.heap.size := ⟨_, rfl⟩
  clear hA hB hD hF hn hm hdr
  go_enter Tryd.func9, Tryd.ntmps9
  go_upto_region 1 with fail
  rw [← hbx]
  refine name_world (X := fun w1 => Code.wp _ _ _ _ w1) fun w1 hw1 => ?_
  have hp1 : PBlk w1 bx T K P N S := by rw [hw1, hbx]; exact PBlk.new w T K P N S
  have hb1 : Below w.heap.size w w1 := by rw [hw1]; exact below_alloc (Below.refl _ _) _
  have HP1 := Aside0.mk hp1
  have HB1 := Aside0.mk hb1
  have HBX := Aside0.mk hbx
  clear hw1 hp1 hb1 hbx
  go_upto_region 2 with (first | (go_at_call 12; (with_reducible refine Calls.mono (HWK.out _ HB1.out) ?_); rintro e w2 ⟨rfl, hb2⟩) | fail)
  have HP2 := Aside0.mk (HP1.out.move hb2)
  have HB2 := Aside0.mk (below_then HB1.out HB1.out.size hb2)
  clear hb2 HWK HP1 HB1
  have y3 := HP2.out.box.c3
  have y9 : w2.frozen? ⟨bx, 3, none⟩ = false := blk_frozen HP2.out 3
  go_upto_region 3 with fail
  refine name_world (X := fun w1 => Code.wp _ _ _ _ w1) fun w3 hw3 => ?_
  have hp3 : PBlk w3 bx T K P 256 S := by rw [hw3]; exact HP2.out.pen 256
  have hb3 : Below w.heap.size w w3 := by rw [hw3]; exact HB2.out.setCell (p := ⟨bx, 3, none⟩) (by show w.heap.size ≤ bx; rw [HBX.out]; exact Nat.le_refl _) _
  have HP3 := Aside0.mk hp3
  have HB3 := Aside0.mk hb3
  clear hw3 hp3 hb3 y3 y9 HP2 HB2
  go_wp2_with fail
  go_loopg [12, 13] n (fun gk v12 v13 wr => ∃ i : Nat, v13 = .int .i64 i ∧ i ≤ n ∧ n ≤ i + gk ∧ Aside0 (wr.ownsRow w3.heap.size 2 1 v12 i (nums .i64 ((l.take i).map (· + d)))) ∧ Aside0 (∀ j : Nat, j < i → -8388608 ≤ l.getD j 0 ∧ l.getD j 0 ≤ 8388608) ∧ Aside0 (Below w3.heap.size w3 wr))
  case atStart => exact ⟨0, by first | rfl | (simp; done), by omega, by omega, ⟨World.ownsRow_nil _ _ _ _⟩, ⟨fun j hj => by omega⟩, ⟨Below.refl _ _⟩⟩
  case round =>
    obtain ⟨i, rfl, hi, hg, HR, HI, HBr⟩ := hrel
    have hbr0 : Below w.heap.size w wr := below_then HB3.out HB3.out.size HBr.out
    by_cases hlt : i < n
    · obtain ⟨ad, rfl, h7⟩ := C_nat (Kd.C_below HA.out hbr0) i hlt
      obtain ⟨s, hs2⟩ : ∃ s, l.getD i 0 = s := ⟨_, rfl⟩
      rw [hs2] at h7
      have HS := Aside0.mk hs2
      have HBR := Aside0.mk hbr0
      clear hs2 hbr0
      by_cases g1 : 8388608 < s
      · go_wp2_with fail
        go_ret
        exact ⟨rfl, HBR.out⟩
      · by_cases g2 : s < -8388608
        · go_wp2_with fail
          go_ret
          exact ⟨rfl, HBR.out⟩
        · have s1 : wrap64 (s + d) = s + d := by have := HDR.out; unfold wrap64; omega
          have s2 : IntKind.i64.wrap (s + d) = s + d := by rw [IntWalk.i64_left]; exact s1
          have hlen : ((l.take i).map (· + d)).length = i := by rw [List.length_map, List.length_take, ← HN.out]; omega
          have hR2 : Aside0 (wr.ownsRow w3.heap.size 2 1 u12 ((l.take i).map (· + d)).length (nums .i64 ((l.take i).map (· + d)))) := ⟨by rw [hlen]; exact HR.out⟩
          have hsz : (((l.take i).map (· + d)).length + 1) * 8 ≤ 140737488355328 := by rw [hlen]; omega
          have HSZ := Aside0.mk hsz
          have HLEN := Aside0.mk hlen
          clear hsz hlen HR
          go_wp2_with (first | (at_builtin; refine print_append_num (w0 := w3) w3.heap.size rfl (.tmp 42) (.tmp 50) 25 2 .i64 8 rfl Tryd.underlying25 infoL (by decide) _ ((l.take i).map (· + d)) (s + d) rfl rfl hR2.out HBr.out HBr.out.size HSZ.out ?_; intro v1 w4 hown hb hg1 hat; have HR1 := Aside0.mk hown; have HB4 := Aside0.mk hb; clear hown hb hg1 hat) | fail)
          go_roundg (n - (i + 1))
          case measure => omega
          case rel =>
            have ht : (l.take (i + 1)).map (· + d) = (l.take i).map (· + d) ++ [s + d] := by
              rw [take_nextI (by rw [← HN.out]; exact hlt), HS.out, List.map_append]
              rfl
            refine ⟨i + 1, by first | rfl | (simp; done), by omega, by omega, ⟨?_⟩, ⟨fun j hj => ?_⟩, HB4⟩
            · rw [ht]
              have h1 := HR1.out
              have h2 : ((l.take i).map (· + d) ++ [s + d]).length = i + 1 := by rw [List.length_append, HLEN.out]; rfl
              rw [h2] at h1
              exact h1
            · rcases Nat.lt_or_ge j i with h | h
              · exact HI.out j h
              · have : j = i := by omega
                subst this
                rw [HS.out]
                omega
    · obtain rfl : i = n := by omega
      have hR := HR.out
      have ht : l.take i = l := by rw [HN.out]; exact List.take_length
      rw [ht] at hR
      obtain ⟨mv, hmv⟩ : ∃ mv, mv = l.map (· + d) := ⟨_, rfl⟩
      have hml : mv.length = i := by rw [hmv, List.length_map, ← HN.out]
      rw [← hmv] at hR
      have hR2 : wr.ownsRow w3.heap.size 2 1 u12 mv.length (nums .i64 mv) := by rw [hml]; exact hR
      obtain ⟨A8, c8, e8, hR8⟩ := own_reads hR2
      subst e8
      have hC8 := Kd.C_of_reads (h1 := fun _ => rfl) hR8
      rw [hml] at hC8 ⊢
      have hp := HP3.out.move HBr.out
      have hcn : kI.C wr none (List.length (α := Int) []) [] := ⟨rfl, by simp, fun h => by simp at h⟩
      have hc1 := fun W (hb : Below wr.heap.size wr W) => HCH.out W A c l none 0 [] (below_then hbr0 hbr0.size hb) HN.out.symm (Kd.C_below HA.out (below_then hbr0 hbr0.size hb)) (Kd.C_below hcn hb) ⟨HF.out.ll, by simp, fun x hx => by simp at hx, HF.out.laid.move (below_then hbr0 hbr0.size hb)⟩
      have hc2 := fun W (hb : Below wr.heap.size wr W) => HCH.out W A8 c8 mv none 0 [] (below_then hbr0 hbr0.size hb) hml (Kd.C_below hC8 hb) (Kd.C_below hcn hb) ⟨by rw [hml]; exact hnb, by simp, fun x hx => by simp at hx, HF.out.laid.move (below_then hbr0 hbr0.size hb)⟩
      have hc3 := fun W (hb : Below wr.heap.size wr W) => HCH.out W A c l A2 c2 sn (below_then hbr0 hbr0.size hb) HN.out.symm (Kd.C_below HA.out (below_then hbr0 hbr0.size hb)) (Kd.C_below HB.out (below_then hbr0 hbr0.size hb)) (HF.out.move (below_then hbr0 hbr0.size hb))
      rw [hmv, chancesR_shift _ l d al HDR.out (fun j hj => HI.out j (by rw [HN.out]; exact hj))] at hc2
      rw [chancesR_256 T K P S l sn al, ← HM.out] at hc3
      simp only [List.length_nil] at hc1 hc2
      have hXl := chancesR_len ⟨T, K, P, 256, S⟩ l [] al
      have hXl2 := HF.out.ll
      obtain ⟨X, hX⟩ : ∃ X, chancesR ⟨T, K, P, 256, S⟩ l [] al = X := ⟨_, rfl⟩
      obtain ⟨er, her⟩ : ∃ er, errR ⟨T, K, P, 256, S⟩ = er := ⟨_, rfl⟩
      rw [hX, her] at hc1 hc2 hc3
      rw [hX] at hXl
      have hXl3 : X.length ≤ 1048576 := by omega
      have HEQ : Aside0 (∀ W A c B c2, Chs W A X → Chs W B X → Calls Tryd.prog 18 #[.slice A X.length c, .slice B X.length c2] W (Says (.bool true) W)) := ⟨fun W A c B c2 h1 h2 => eqch_calls A c B c2 X W h1 h2 hXl3⟩
      obtain ⟨xl, hxl⟩ : ∃ xl, xl = X.length := ⟨_, rfl⟩
      unfold Gives at hc1 hc2 hc3
      rw [← hxl] at hc1 hc2 hc3 HEQ
      have HC1 := Aside0.mk hc1
      have HC2 := Aside0.mk hc2
      have HC3 := Aside0.mk hc3
      have HBR := Aside0.mk hbr0
      have HPP := Aside0.mk hp.box
      clear hc1 hc2 hc3 hX her hXl hXl2 hXl3 hbr0 hR8 hC8 HR HI hp hxl hcn hR hR2 hmv hml ht
      have y0 := HPP.out.c0
      have y1 := HPP.out.c1
      have y2 := HPP.out.c2
      have y3 := HPP.out.c3
      have y4 := HPP.out.c4
      go_upto_region 11 with (first | (go_at_call 16; (with_reducible refine Calls.mono (HC1.out _ (Below.refl _ _)) ?_); rintro e w7 ⟨A9, c9, rfl, hc9, h9, hb9⟩) | fail)
      have H9 := Aside0.mk h9
      have HB9 := Aside0.mk hb9
      have y0 := pw_cell_below hb9 y0
      have y1 := pw_cell_below hb9 y1
      have y2 := pw_cell_below hb9 y2
      have y3 := pw_cell_below hb9 y3
      have y4 := pw_cell_below hb9 y4
      clear h9 hb9
      go_upto_region 12 with (first | (go_at_call 16; (with_reducible refine Calls.mono (HC2.out _ HB9.out) ?_); rintro e w8 ⟨A10, c10, rfl, hc10, h10, hb10⟩) | fail)
      have H10 := Aside0.mk h10
      have HB10 := Aside0.mk (below_then HB9.out HB9.out.size hb10)
      have H9b := Aside0.mk (H9.out.below hb10)
      have y0 := pw_cell_below hb10 y0
      have y1 := pw_cell_below hb10 y1
      have y2 := pw_cell_below hb10 y2
      have y3 := pw_cell_below hb10 y3
      have y4 := pw_cell_below hb10 y4
      clear h10 hb10
      go_upto_region 13 with (first | (go_at_call 16; (with_reducible refine Calls.mono (HC3.out _ HB10.out) ?_); rintro e w9 ⟨A11, c11, rfl, hc11, h11, hb11⟩) | fail)
      have HE1 := Aside0.mk (HEQ.out w9 A9 c9 A10 c10 (H9b.out.below hb11) (H10.out.below hb11))
      have HE2 := Aside0.mk (fun q => HEQ.out (w9.drewN q) A9 c9 A11 c11 (H9b.out.below (pw_below_drewN hb11 q)) h11)
      have HB11 := Aside0.mk (below_then HBR.out HBR.out.size (below_then HB10.out HB10.out.size hb11))
      clear h11 hb11 y0 y1 y2 y3 y4
      go_wp2_with (first | (go_at_call 18; (with_reducible refine Calls.mono HE1.out ?_); rintro e w10 ⟨rfl, q9, rfl⟩) | (go_at_call 18; (with_reducible refine Calls.mono (HE2.out _) ?_); rintro e w11 ⟨rfl, q10, rfl⟩) | fail)
      go_ret
      exact ⟨rfl, pw_below_drewN HB11.out _⟩
#print axioms moves_walk
end Go.Proofs.YtfnphepiopncbaaDoor.Pick
