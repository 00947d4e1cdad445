/- Plain laws of the chances: a number added to all logits, what was seen with a penalty of 256. Conditions: none. The walk of PickMoves. Conditions: what the tables hold; the bulk. Plain laws of the chances: a greater TopP and TopK. Conditions: none. Plain laws of the draw; pick.Choose whole. Conditions: what the tables hold. -/
import Derived.Test.YtfnphepiopncbaaDoorPickJ
namespace Go.Proofs.YtfnphepiopncbaaDoor.Pick
open Go.RowKit Go.Proofs.YtfnphepiopncbaaDoorW.PrintWords Go.Proofs.YtfnphepiopncbaaDoor.Srt
open Go.Proofs.YtfnphepiopncbaaDoor.PPickSound (S45 z45 k45 k45_mk)
open Go.Proofs.YtfnphepiopncbaaDoor.Heads (kI seqOf kv)
set_option linter.unusedVariables false
set_option linter.unusedSimpArgs false

theorem ordl_mem {K : Int → Int} {n : Nat} {z : Int} : z ∈ ordl K n ↔ 0 ≤ z ∧ z < n := by
  rw [(ordl_perm K n).mem_iff, nos_mem]
  simp
theorem ordl_nodup (K : Int → Int) (n : Nat) : (ordl K n).Nodup := (ordl_perm K n).nodup_iff.2 nos_nodup
theorem ordl_congr {K K' : Int → Int} {n : Nat} (c : Int) (h : ∀ z : Int, 0 ≤ z → z < (n : Int) → K' z = K z + c) : ordl K' n = ordl K n := by
  refine ordl_of (ordl_perm K' n) ?_
  refine List.Pairwise.imp_of_mem ?_ (ordl_srtd K' n)
  intro a b ha hb hab
  rw [ordl_mem] at ha hb
  have h1 := h a ha.1 ha.2
  have h2 := h b hb.1 hb.2
  unfold Srt.ahead at *
  omega
theorem seenf_256 (c : Int) : seenf 256 c = c := by
  unfold seenf
  rw [shf8]
  split
  · omega
  · omega
theorem scores_256 (sn l : List Int) : scores 256 sn l = scores 256 [] l := by
  unfold scores
  apply List.map_congr_left
  intro i hi
  unfold scoreAt
  rw [seenf_256]
  simp
theorem kv_scores {l : List Int} {z : Int} (pen : Int) (h0 : 0 ≤ z) (h : z < l.length) : kv (scores pen [] l) z = wide (kv l z) := by
  unfold kv
  have h2 := scores_get (pen := pen) (sn := []) (l := l) (i := z.toNat) (by omega)
  rw [h2]
  simp [scoreAt]
def shiftc (d : Int) (x : S45) : S45 := ⟨x.f0, x.f1 + d⟩
theorem seqOf_shift {sc sc' : List Int} (d : Int) (hl : sc'.length = sc.length) (h : ∀ z : Int, 0 ≤ z → z < (sc.length : Int) → kv sc' z = kv sc z + d) : seqOf sc' = (seqOf sc).map fun x => (x.1, x.2 + d) := by
  unfold seqOf
  rw [hl, ordl_congr d h, List.map_map]
  apply List.map_congr_left
  intro z hz
  rw [ordl_mem] at hz
  show (z, kv sc' z) = (z, kv sc z + d)
  rw [h z hz.1 hz.2]
theorem sel_shift (al : List Bool) (d : Int) (pre : List (Int × Int)) : sel al (pre.map fun x => (x.1, x.2 + d)) = (sel al pre).map (shiftc d) := by
  unfold sel
  rw [List.filter_map, List.map_map, List.map_map]
  rfl
theorem wts_shift (T d : Int) (l1 : List S45) : wts2 T (l1.map (shiftc d)) = wts2 T l1 := by
  unfold wts2
  rw [List.map_map]
  apply List.map_congr_left
  intro x hx
  cases l1 with
  | nil => cases hx
  | cons y ys =>
    show wtf T (y.f1 + d) (shiftc d x) = wtf T y.f1 x
    unfold wtf shiftc
    have e : x.f1 + d - (y.f1 + d) = x.f1 - y.f1 := by omega
    rw [e]
theorem later_eq (p : Par) (l0 : List S45) : later p l0 = if 0 < p.T then (wts2 p.T (cut2 p.K l0)).take (thinN p.P (wts2 p.T (cut2 p.K l0))) else (l0.take 1).map oneW := rfl
theorem later_shift (p : Par) (d : Int) (l0 : List S45) : later p (l0.map (shiftc d)) = later p l0 := by
  rw [later_eq, later_eq]
  have hc : cut2 p.K (l0.map (shiftc d)) = (cut2 p.K l0).map (shiftc d) := by
    unfold cut2
    split
    · rw [List.map_take]
    · rfl
  rw [hc, wts_shift]
  split
  · rfl
  · rw [← List.map_take, List.map_map]
    rfl
/-- One number added to all logits changes nothing, as long as all stay within Wide. -/
theorem chancesR_shift (p : Par) (l : List Int) (d : Int) (al : List Bool) (hd : -8388608 < d ∧ d < 8388608) (hl : ∀ i : Nat, i < l.length → -8388608 ≤ l.getD i 0 ∧ l.getD i 0 ≤ 8388608) : chancesR p (l.map (· + d)) [] al = chancesR p l [] al := by
  unfold chancesR
  split
  · unfold chancesf
    have hw : ∀ x : Int, -16777216 ≤ x → x ≤ 16777216 → wide x = x := by
      intro x h1 h2
      unfold wide clampf
      repeat' split
      all_goals omega
    have h1 : firsts (scores p.N [] (l.map (· + d))) al = (firsts (scores p.N [] l) al).map (shiftc d) := by
      unfold firsts
      rw [seqOf_shift (sc := scores p.N [] l) d, sel_shift]
      · rw [scores_len, scores_len, List.length_map]
      · intro z h0 hz
        rw [scores_len] at hz
        rw [kv_scores _ h0 (by rw [List.length_map]; exact hz), kv_scores _ h0 hz]
        have h2 := hl z.toNat (by omega)
        have h3 : kv (l.map (· + d)) z = kv l z + d := by
          unfold kv
          rw [List.getD_eq_getElem?_getD, List.getD_eq_getElem?_getD, List.getElem?_map, List.getElem?_eq_getElem (show z.toNat < l.length by omega)]
          rfl
        rw [h3, hw _ (by show -16777216 ≤ l.getD z.toNat 0 + d; omega) (by show l.getD z.toNat 0 + d ≤ 16777216; omega), hw _ (by show -16777216 ≤ l.getD z.toNat 0; omega) (by show l.getD z.toNat 0 ≤ 16777216; omega)]
    rw [h1, later_shift]
  · rfl
theorem chancesR_256 (T K P S : Int) (l sn : List Int) (al : List Bool) : chancesR ⟨T, K, P, 256, S⟩ l sn al = chancesR ⟨T, K, P, 256, S⟩ l [] al := by
  unfold chancesR chancesf
  rw [scores_256]
#print axioms chancesR_shift
#print axioms chancesR_256
end Go.Proofs.YtfnphepiopncbaaDoor.Pick
namespace Go.Proofs.YtfnphepiopncbaaDoor.Pick
open Go.RowKit Go.Proofs.YtfnphepiopncbaaDoorW.PrintWords Go.Proofs.YtfnphepiopncbaaDoor.Srt
open Go.Proofs.YtfnphepiopncbaaDoor.PPickSound (S45 z45 k45 k45_mk)
open Go.Proofs.YtfnphepiopncbaaDoor.Heads (kI seqOf kv)
set_option linter.unusedVariables false
set_option linter.unusedSimpArgs false

/-- The parameters' whole block. -/
abbrev PBlk (w : World) (b : Nat) (T K P N S : Int) : Prop := w.heap[b]? = some (.cells #[.int .i64 T, .int .i64 K, .int .i64 P, .int .i64 N, .int .u64 S] 24 (0, 0))
theorem PBlk.box {w : World} {b : Nat} {T K P N S : Int} (h : PBlk w b T K P N S) : PBox w b T K P N S := ⟨blk_cell h 0, blk_cell h 1, blk_cell h 2, blk_cell h 3, blk_cell h 4⟩
theorem PBlk.new (w : World) (T K P N S : Int) : PBlk (w.alloc (.cells #[.int .i64 T, .int .i64 K, .int .i64 P, .int .i64 N, .int .u64 S] 24)) w.heap.size T K P N S := blk_new w _
theorem PBlk.move {w w' : World} {b : Nat} {T K P N S : Int} (h : PBlk w b T K P N S) (hb : Below w.heap.size w w') : PBlk w' b T K P N S := blk_below h hb
theorem PBlk.pen {w : World} {b : Nat} {T K P N S : Int} (h : PBlk w b T K P N S) (u : Int) : PBlk (w.setCell ⟨b, 3, none⟩ (.int .i64 u)) b T K P u S := blk_put h 3 _ (by simp)
theorem infoL : (Tryd.prog.info? 2).map (fun i => (i.zero, i.size, i.bytes)) = some (some (.int .i64 0), 1, 8) := by kernel_rfl
theorem take_nextI {l : List Int} {i : Nat} (h : i < l.length) : l.take (i + 1) = l.take i ++ [l.getD i 0] := by
  rw [List.take_add_one, List.getElem?_eq_getElem h, List.getD_eq_getElem?_getD, List.getElem?_eq_getElem h]
  rfl
set_option maxHeartbeats 2000000 in
set_option maxRecDepth 100000 in
theorem moves_walk (T K P N S : Int) (A : Option Addr) (c : Nat) (l : List Int) (A2 : Option Addr) (c2 : Nat) (sn : List Int) (B : Int) (A3 : Option Addr) (c3 : Nat) (al : List Bool) (w : World) (hA : kI.C w A l.length l) (hB : kI.C w A2 sn.length sn) (hD : Kd.bool.C w A3 al.length al) (hF : Fits w l sn al) :
    Calls Tryd.prog 9 #[.agg #[.int .i64 T, .int .i64 K, .int .i64 P, .int .i64 N, .int .u64 S], .slice A l.length c, .slice A2 sn.length c2, .int .i64 B, .slice A3 al.length c3] w (Yes w) := by
  obtain ⟨n, hn⟩ : ∃ n, n = l.length := ⟨_, rfl⟩
  obtain ⟨m, hm⟩ : ∃ m, m = sn.length := ⟨_, rfl⟩
  have HWK : Aside0 (∀ W, Below w.heap.size w W → Calls Tryd.prog 12 #[] W (fun e w' => e = .returned (.bool true) ∧ Below W.heap.size W w')) := ⟨fun W hb => works_calls W (hF.laid.move hb)⟩
  have HCH : Aside0 (∀ W A8 c8 l' A9 c9 sn', Below w.heap.size w W → l'.length = n → kI.C W A8 n l' → kI.C W A9 sn'.length sn' → Fits W l' sn' al → Calls Tryd.prog 16 #[.agg #[.int .i64 T, .int .i64 K, .int .i64 P, .int .i64 256, .int .u64 S], .slice A8 n c8, .slice A9 sn'.length c9, .slice A3 al.length c3] W (Gives W (chancesR ⟨T, K, P, 256, S⟩ l' sn' al) (errR ⟨T, K, P, 256, S⟩))) := ⟨fun W A8 c8 l' A9 c9 sn' hb hl hC hC2 hf => by
    rw [← hl] at hC ⊢
    exact gives_calls T K P 256 S A8 c8 l' A9 c9 sn' A3 c3 al W hC hC2 (Kd.C_below hD hb) hf⟩
  have hnb : n ≤ 1048576 := by rw [hn]; exact hF.ll
  rw [← hn] at hA ⊢
  obtain ⟨d, hd⟩ : ∃ d, B.tmod 8388608 = d := ⟨_, rfl⟩
  have hdr : -8388608 < d ∧ d < 8388608 := by rw [← hd]; exact ⟨Int.lt_tmod_of_pos B (by decide), Int.tmod_lt_of_pos B (by decide)⟩
  have d1 : wrap64 d = d := by unfold wrap64; omega
  have d2 : IntKind.i64.wrap d = d := by rw [IntWalk.i64_left]; exact d1
  have HF := Aside0.mk hF
  have HA := Aside0.mk hA
  have HB := Aside0.mk hB
  have HN := Aside0.mk hn
  have HM := Aside0.mk hm
  have HDR := Aside0.mk hdr
  rw [← hm]
  obtain ⟨bx, hbx⟩ : ∃ bx, bx = w.heap.size := ⟨_, rfl⟩
  clear hA hB hD hF hn hm hdr
  go_enter Tryd.func9, Tryd.ntmps9
  go_upto_region 1 with fail
  rw [← hbx]
  refine name_world (X := fun w1 => Code.wp _ _ _ _ w1) fun w1 hw1 => ?_
  have hp1 : PBlk w1 bx T K P N S := by rw [hw1, hbx]; exact PBlk.new w T K P N S
  have hb1 : Below w.heap.size w w1 := by rw [hw1]; exact below_alloc (Below.refl _ _) _
  have HP1 := Aside0.mk hp1
  have HB1 := Aside0.mk hb1
  have HBX := Aside0.mk hbx
  clear hw1 hp1 hb1 hbx
  go_upto_region 2 with (first | (go_at_call 12; (with_reducible refine Calls.mono (HWK.out _ HB1.out) ?_); rintro e w2 ⟨rfl, hb2⟩) | fail)
  have HP2 := Aside0.mk (HP1.out.move hb2)
  have HB2 := Aside0.mk (below_then HB1.out HB1.out.size hb2)
  clear hb2 HWK HP1 HB1
  have y3 := HP2.out.box.c3
  have y9 : w2.frozen? ⟨bx, 3, none⟩ = false := blk_frozen HP2.out 3
  go_upto_region 3 with fail
  refine name_world (X := fun w1 => Code.wp _ _ _ _ w1) fun w3 hw3 => ?_
  have hp3 : PBlk w3 bx T K P 256 S := by rw [hw3]; exact HP2.out.pen 256
  have hb3 : Below w.heap.size w w3 := by rw [hw3]; exact HB2.out.setCell (p := ⟨bx, 3, none⟩) (by show w.heap.size ≤ bx; rw [HBX.out]; exact Nat.le_refl _) _
  have HP3 := Aside0.mk hp3
  have HB3 := Aside0.mk hb3
  clear hw3 hp3 hb3 y3 y9 HP2 HB2
  go_wp2_with fail
  go_loopg [12, 13] n (fun gk v12 v13 wr => ∃ i : Nat, v13 = .int .i64 i ∧ i ≤ n ∧ n ≤ i + gk ∧ Aside0 (wr.ownsRow w3.heap.size 2 1 v12 i (nums .i64 ((l.take i).map (· + d)))) ∧ Aside0 (∀ j : Nat, j < i → -8388608 ≤ l.getD j 0 ∧ l.getD j 0 ≤ 8388608) ∧ Aside0 (Below w3.heap.size w3 wr))
  case atStart => exact ⟨0, by first | rfl | (simp; done), by omega, by omega, ⟨World.ownsRow_nil _ _ _ _⟩, ⟨fun j hj => by omega⟩, ⟨Below.refl _ _⟩⟩
  case round =>
    obtain ⟨i, rfl, hi, hg, HR, HI, HBr⟩ := hrel
    have hbr0 : Below w.heap.size w wr := below_then HB3.out HB3.out.size HBr.out
    by_cases hlt : i < n
    · obtain ⟨ad, rfl, h7⟩ := C_nat (Kd.C_below HA.out hbr0) i hlt
      obtain ⟨s, hs2⟩ : ∃ s, l.getD i 0 = s := ⟨_, rfl⟩
      rw [hs2] at h7
      have HS := Aside0.mk hs2
      have HBR := Aside0.mk hbr0
      clear hs2 hbr0
      by_cases g1 : 8388608 < s
      · go_wp2_with fail
        go_ret
        exact ⟨rfl, HBR.out⟩
      · by_cases g2 : s < -8388608
        · go_wp2_with fail
          go_ret
          exact ⟨rfl, HBR.out⟩
        · have s1 : wrap64 (s + d) = s + d := by have := HDR.out; unfold wrap64; omega
          have s2 : IntKind.i64.wrap (s + d) = s + d := by rw [IntWalk.i64_left]; exact s1
          have hlen : ((l.take i).map (· + d)).length = i := by rw [List.length_map, List.length_take, ← HN.out]; omega
          have hR2 : Aside0 (wr.ownsRow w3.heap.size 2 1 u12 ((l.take i).map (· + d)).length (nums .i64 ((l.take i).map (· + d)))) := ⟨by rw [hlen]; exact HR.out⟩
          have hsz : (((l.take i).map (· + d)).length + 1) * 8 ≤ 140737488355328 := by rw [hlen]; omega
          have HSZ := Aside0.mk hsz
          have HLEN := Aside0.mk hlen
          clear hsz hlen HR
          go_wp2_with (first | (at_builtin; refine print_append_num (w0 := w3) w3.heap.size rfl (.tmp 42) (.tmp 50) 25 2 .i64 8 rfl Tryd.underlying25 infoL (by decide) _ ((l.take i).map (· + d)) (s + d) rfl rfl hR2.out HBr.out HBr.out.size HSZ.out ?_; intro v1 w4 hown hb hg1 hat; have HR1 := Aside0.mk hown; have HB4 := Aside0.mk hb; clear hown hb hg1 hat) | fail)
          go_roundg (n - (i + 1))
          case measure => omega
          case rel =>
            have ht : (l.take (i + 1)).map (· + d) = (l.take i).map (· + d) ++ [s + d] := by
              rw [take_nextI (by rw [← HN.out]; exact hlt), HS.out, List.map_append]
              rfl
            refine ⟨i + 1, by first | rfl | (simp; done), by omega, by omega, ⟨?_⟩, ⟨fun j hj => ?_⟩, HB4⟩
            · rw [ht]
              have h1 := HR1.out
              have h2 : ((l.take i).map (· + d) ++ [s + d]).length = i + 1 := by rw [List.length_append, HLEN.out]; rfl
              rw [h2] at h1
              exact h1
            · rcases Nat.lt_or_ge j i with h | h
              · exact HI.out j h
              · have : j = i := by omega
                subst this
                rw [HS.out]
                omega
    · obtain rfl : i = n := by omega
      have hR := HR.out
      have ht : l.take i = l := by rw [HN.out]; exact List.take_length
      rw [ht] at hR
      obtain ⟨mv, hmv⟩ : ∃ mv, mv = l.map (· + d) := ⟨_, rfl⟩
      have hml : mv.length = i := by rw [hmv, List.length_map, ← HN.out]
      rw [← hmv] at hR
      have hR2 : wr.ownsRow w3.heap.size 2 1 u12 mv.length (nums .i64 mv) := by rw [hml]; exact hR
      obtain ⟨A8, c8, e8, hR8⟩ := own_reads hR2
      subst e8
      have hC8 := Kd.C_of_reads (h1 := fun _ => rfl) hR8
      rw [hml] at hC8 ⊢
      have hp := HP3.out.move HBr.out
      have hcn : kI.C wr none (List.length (α := Int) []) [] := ⟨rfl, by simp, fun h => by simp at h⟩
      have hc1 := fun W (hb : Below wr.heap.size wr W) => HCH.out W A c l none 0 [] (below_then hbr0 hbr0.size hb) HN.out.symm (Kd.C_below HA.out (below_then hbr0 hbr0.size hb)) (Kd.C_below hcn hb) ⟨HF.out.ll, by simp, fun x hx => by simp at hx, HF.out.laid.move (below_then hbr0 hbr0.size hb)⟩
      have hc2 := fun W (hb : Below wr.heap.size wr W) => HCH.out W A8 c8 mv none 0 [] (below_then hbr0 hbr0.size hb) hml (Kd.C_below hC8 hb) (Kd.C_below hcn hb) ⟨by rw [hml]; exact hnb, by simp, fun x hx => by simp at hx, HF.out.laid.move (below_then hbr0 hbr0.size hb)⟩
      have hc3 := fun W (hb : Below wr.heap.size wr W) => HCH.out W A c l A2 c2 sn (below_then hbr0 hbr0.size hb) HN.out.symm (Kd.C_below HA.out (below_then hbr0 hbr0.size hb)) (Kd.C_below HB.out (below_then hbr0 hbr0.size hb)) (HF.out.move (below_then hbr0 hbr0.size hb))
      rw [hmv, chancesR_shift _ l d al HDR.out (fun j hj => HI.out j (by rw [HN.out]; exact hj))] at hc2
      rw [chancesR_256 T K P S l sn al, ← HM.out] at hc3
      simp only [List.length_nil] at hc1 hc2
      have hXl := chancesR_len ⟨T, K, P, 256, S⟩ l [] al
      have hXl2 := HF.out.ll
      obtain ⟨X, hX⟩ : ∃ X, chancesR ⟨T, K, P, 256, S⟩ l [] al = X := ⟨_, rfl⟩
      obtain ⟨er, her⟩ : ∃ er, errR ⟨T, K, P, 256, S⟩ = er := ⟨_, rfl⟩
      rw [hX, her] at hc1 hc2 hc3
      rw [hX] at hXl
      have hXl3 : X.length ≤ 1048576 := by omega
      have HEQ : Aside0 (∀ W A c B c2, Chs W A X → Chs W B X → Calls Tryd.prog 18 #[.slice A X.length c, .slice B X.length c2] W (Says (.bool true) W)) := ⟨fun W A c B c2 h1 h2 => eqch_calls A c B c2 X W h1 h2 hXl3⟩
      obtain ⟨xl, hxl⟩ : ∃ xl, xl = X.length := ⟨_, rfl⟩
      unfold Gives at hc1 hc2 hc3
      rw [← hxl] at hc1 hc2 hc3 HEQ
      have HC1 := Aside0.mk hc1
      have HC2 := Aside0.mk hc2
      have HC3 := Aside0.mk hc3
      have HBR := Aside0.mk hbr0
      have HPP := Aside0.mk hp.box
      clear hc1 hc2 hc3 hX her hXl hXl2 hXl3 hbr0 hR8 hC8 HR HI hp hxl hcn hR hR2 hmv hml ht
      have y0 := HPP.out.c0
      have y1 := HPP.out.c1
      have y2 := HPP.out.c2
      have y3 := HPP.out.c3
      have y4 := HPP.out.c4
      go_upto_region 11 with (first | (go_at_call 16; (with_reducible refine Calls.mono (HC1.out _ (Below.refl _ _)) ?_); rintro e w7 ⟨A9, c9, rfl, hc9, h9, hb9⟩) | fail)
      have H9 := Aside0.mk h9
      have HB9 := Aside0.mk hb9
      have y0 := pw_cell_below hb9 y0
      have y1 := pw_cell_below hb9 y1
      have y2 := pw_cell_below hb9 y2
      have y3 := pw_cell_below hb9 y3
      have y4 := pw_cell_below hb9 y4
      clear h9 hb9
      go_upto_region 12 with (first | (go_at_call 16; (with_reducible refine Calls.mono (HC2.out _ HB9.out) ?_); rintro e w8 ⟨A10, c10, rfl, hc10, h10, hb10⟩) | fail)
      have H10 := Aside0.mk h10
      have HB10 := Aside0.mk (below_then HB9.out HB9.out.size hb10)
      have H9b := Aside0.mk (H9.out.below hb10)
      have y0 := pw_cell_below hb10 y0
      have y1 := pw_cell_below hb10 y1
      have y2 := pw_cell_below hb10 y2
      have y3 := pw_cell_below hb10 y3
      have y4 := pw_cell_below hb10 y4
      clear h10 hb10
      go_upto_region 13 with (first | (go_at_call 16; (with_reducible refine Calls.mono (HC3.out _ HB10.out) ?_); rintro e w9 ⟨A11, c11, rfl, hc11, h11, hb11⟩) | fail)
      have HE1 := Aside0.mk (HEQ.out w9 A9 c9 A10 c10 (H9b.out.below hb11) (H10.out.below hb11))
      have HE2 := Aside0.mk (fun q => HEQ.out (w9.drewN q) A9 c9 A11 c11 (H9b.out.below (pw_below_drewN hb11 q)) h11)
      have HB11 := Aside0.mk (below_then HBR.out HBR.out.size (below_then HB10.out HB10.out.size hb11))
      clear h11 hb11 y0 y1 y2 y3 y4
      go_wp2_with (first | (go_at_call 18; (with_reducible refine Calls.mono HE1.out ?_); rintro e w10 ⟨rfl, q9, rfl⟩) | (go_at_call 18; (with_reducible refine Calls.mono (HE2.out _) ?_); rintro e w11 ⟨rfl, q10, rfl⟩) | fail)
      go_ret
      exact ⟨rfl, pw_below_drewN HB11.out _⟩
#print axioms moves_walk
end Go.Proofs.YtfnphepiopncbaaDoor.Pick
namespace Go.Proofs.YtfnphepiopncbaaDoor.Pick
open Go.RowKit Go.Proofs.YtfnphepiopncbaaDoorW.PrintWords Go.Proofs.YtfnphepiopncbaaDoor.Srt
open Go.Proofs.YtfnphepiopncbaaDoor.PPickSound (S45 z45 k45 k45_mk)
open Go.Proofs.YtfnphepiopncbaaDoor.Heads (kI seqOf kv)
set_option linter.unusedVariables false
set_option linter.unusedSimpArgs false

theorem cut2_prefix {K k : Int} (h : k = 0 ∨ (K ≠ 0 ∧ K ≤ k)) (h0 : 0 ≤ K ∧ 0 ≤ k) (l0 : List S45) : ∃ m, 1 ≤ m ∧ cut2 K l0 = (cut2 k l0).take m := by
  rcases h with h | h
  · subst h
    by_cases hK : 0 < K
    · refine ⟨K.toNat, by omega, ?_⟩
      unfold cut2
      rw [if_pos hK, if_neg (by omega)]
    · refine ⟨l0.length + 1, by omega, ?_⟩
      unfold cut2
      rw [if_neg hK, if_neg (by omega), List.take_of_length_le (by omega)]
  · refine ⟨K.toNat, by omega, ?_⟩
    unfold cut2
    rw [if_pos (by omega), if_pos (by omega), List.take_take, Nat.min_eq_left (by omega)]
theorem wts2_take (T : Int) (xs : List S45) {m : Nat} (hm : 1 ≤ m) : wts2 T (xs.take m) = (wts2 T xs).take m := by
  unfold wts2
  rw [List.map_take]
  cases xs with
  | nil => simp
  | cons x xs =>
    cases m with
    | zero => omega
    | succ m => rfl
theorem cutN_mono : ∀ (xs : List S45) (m : Nat) (h a b : Int), a ≤ b → cutN a h (xs.take m) ≤ cutN b h xs := by
  intro xs
  induction xs with
  | nil => intro m h a b hab; rw [List.take_nil]; exact Nat.le_refl _
  | cons x xs ih =>
    intro m h a b hab
    cases m with
    | zero => exact Nat.zero_le _
    | succ m =>
      rw [List.take_succ_cons]
      unfold cutN
      have := ih m (h + x.f1) a b hab
      split
      · rw [if_pos (by omega)]
        omega
      · exact Nat.zero_le _
theorem tot_nonneg {xs : List S45} (h : Wts xs) : 0 ≤ tot xs := (tot_range h).1
theorem tot_take {xs : List S45} (h : Wts xs) (m : Nat) : tot (xs.take m) ≤ tot xs := by
  have e : tot xs = tot (xs.take m) + tot (xs.drop m) := by
    unfold tot
    rw [← List.sum_append, ← List.map_append, List.take_append_drop]
  have h2 : Wts (xs.drop m) := fun x hx => h x (List.mem_of_mem_drop hx)
  have := tot_nonneg h2
  omega
theorem wts2_wts (T : Int) (l1 : List S45) : Wts (wts2 T l1) := wtf_wts _ _ _
theorem later_nested {p q : Par} (hT : q.T = p.T) (hp : p.ok) (hq : q.ok) (hP : p.P ≤ q.P) (hK : q.K = 0 ∨ (p.K ≠ 0 ∧ p.K ≤ q.K)) (l0 : List S45) : ∃ m, later p l0 = (later q l0).take m := by
  rw [later_eq, later_eq, hT]
  split
  · obtain ⟨m, hm, e⟩ := cut2_prefix hK ⟨hp.2.1.1, hq.2.1.1⟩ l0
    rw [e, wts2_take _ _ hm]
    have hw := wts2_wts p.T (cut2 q.K l0)
    generalize wts2 p.T (cut2 q.K l0) = xs at hw ⊢
    have h1 : thinN p.P (xs.take m) ≤ thinN q.P xs := by
      unfold thinN
      refine cutN_mono xs m 0 _ _ ?_
      have h2 := tot_take hw m
      have h3 := tot_nonneg (fun x hx => hw x (List.mem_of_mem_take hx) : Wts (xs.take m))
      have h4 : tot (xs.take m) * p.P ≤ tot (xs.take m) * q.P := Int.mul_le_mul_of_nonneg_left hP h3
      have h5 : tot (xs.take m) * q.P ≤ tot xs * q.P := Int.mul_le_mul_of_nonneg_right h2 (by have := hq.2.2.1.1; omega)
      omega
    refine ⟨min m (thinN p.P (xs.take m)), ?_⟩
    rw [List.take_take, List.take_take, Nat.min_comm m, Nat.min_assoc, Nat.min_comm m]
    congr 1
    omega
  · exact ⟨((l0.take 1).map oneW).length, by rw [List.take_length]⟩
theorem take_len {α : Type} {l : List α} {m : Nat} {k : List α} (h : k = l.take m) : k.length ≤ l.length ∧ k = l.take k.length := by
  subst h
  rw [List.length_take]
  refine ⟨by omega, ?_⟩
  rcases Nat.le_total m l.length with h | h
  · rw [Nat.min_eq_left h]
  · rw [Nat.min_eq_right h, List.take_of_length_le h, List.take_length]
/-- What a greater TopP and TopK add, they add at the end. -/
theorem chancesR_nested (T K P N S k part : Int) (l sn : List Int) (al : List Bool) (hp : Par.ok ⟨T, K, P, N, S⟩) (hq : Par.ok ⟨T, k, part, N, S⟩) (hP : P ≤ part) (hK : k = 0 ∨ (K ≠ 0 ∧ K ≤ k)) :
    (chancesR ⟨T, K, P, N, S⟩ l sn al).length ≤ (chancesR ⟨T, k, part, N, S⟩ l sn al).length ∧ chancesR ⟨T, K, P, N, S⟩ l sn al = (chancesR ⟨T, k, part, N, S⟩ l sn al).take (chancesR ⟨T, K, P, N, S⟩ l sn al).length := by
  unfold chancesR
  rw [if_pos hp, if_pos hq]
  unfold chancesf
  obtain ⟨m, e⟩ := later_nested (p := ⟨T, K, P, N, S⟩) (q := ⟨T, k, part, N, S⟩) rfl hp hq hP hK (firsts (scores N sn l) al)
  exact take_len e
theorem errR_cases (p : Par) (l sn : List Int) (al : List Bool) : (errR p = 0 ∧ p.ok) ∨ (errR p = 100 ∧ chancesR p l sn al = []) := by
  unfold errR chancesR
  by_cases h : p.ok
  · exact .inl ⟨if_pos h, h⟩
  · exact .inr ⟨if_neg h, if_neg h⟩
#print axioms chancesR_nested
end Go.Proofs.YtfnphepiopncbaaDoor.Pick
namespace Go.Proofs.YtfnphepiopncbaaDoor.Pick
open Go.RowKit Go.Proofs.YtfnphepiopncbaaDoorW.PrintWords Go.Proofs.YtfnphepiopncbaaDoor.Srt
open Go.Proofs.YtfnphepiopncbaaDoor.PPickSound (S45 z45 k45 k45_mk)
open Go.Proofs.YtfnphepiopncbaaDoor.Heads (kI seqOf kv)
set_option linter.unusedVariables false
set_option linter.unusedSimpArgs false

theorem expf_zero : expf 0 = 65536 := by decide +kernel
theorem tot_next {xs : List S45} {i : Nat} (h : i < xs.length) : tot (xs.take (i + 1)) = tot (xs.take i) + (xs.getD i z45).f1 := by
  unfold tot
  rw [List.take_add_one, List.getElem?_eq_getElem h, List.getD_eq_getElem?_getD, List.getElem?_eq_getElem h, List.map_append, List.sum_append]
  simp
/-- The place of a number in the running sums. -/
theorem pickf_at : ∀ (xs : List S45) (u : Int) (i : Nat), Wts xs → i < xs.length → tot (xs.take i) ≤ u → u < tot (xs.take i) + (xs.getD i z45).f1 → pickf u xs = (xs.getD i z45).f0 := by
  intro xs
  induction xs with
  | nil => intro u i _ h; simp at h
  | cons x xs ih =>
    intro u i hw hi h1 h2
    rw [pickf_cons]
    cases i with
    | zero =>
      have e : tot (List.take 0 (x :: xs)) = 0 := rfl
      rw [e] at h1 h2
      have h3 : (List.getD (x :: xs) 0 z45) = x := rfl
      rw [h3] at h2 ⊢
      rw [if_pos (by omega)]
    | succ i =>
      have e : tot (List.take (i + 1) (x :: xs)) = x.f1 + tot (xs.take i) := by
        unfold tot
        rw [List.take_succ_cons, List.map_cons, List.sum_cons]
      have h3 : (List.getD (x :: xs) (i + 1) z45) = xs.getD i z45 := rfl
      rw [e] at h1 h2
      rw [h3] at h2 ⊢
      have hw2 : Wts xs := fun y hy => hw y (List.mem_cons_of_mem _ hy)
      have h4 := tot_nonneg (fun y hy => hw2 y (List.mem_of_mem_take hy) : Wts (xs.take i))
      rw [if_neg (by omega)]
      exact ih (u - x.f1) i hw2 (by simpa using hi) (by omega) (by omega)
/-- The first chance has the weight 65536. -/
theorem wts2_first (T : Int) (l1 : List S45) (h : 0 < l1.length) : ((wts2 T l1).getD 0 z45).f1 = 65536 := by
  cases l1 with
  | nil => simp at h
  | cons y ys =>
    show expf ((y.f1 - y.f1) * 16384 / T) = 65536
    rw [Int.sub_self, Int.zero_mul, Int.zero_ediv, expf_zero]
theorem later_first (p : Par) (l0 : List S45) (h : 0 < (later p l0).length) : ((later p l0).getD 0 z45).f1 = 65536 := by
  rw [later_eq] at h ⊢
  split
  · rename_i hT
    rw [if_pos hT] at h
    rw [List.length_take] at h
    have h1 : 0 < (wts2 p.T (cut2 p.K l0)).length := by omega
    have h2 : 0 < (cut2 p.K l0).length := by unfold wts2 at h1; rwa [List.length_map] at h1
    rw [List.getD_eq_getElem?_getD, List.getElem?_take, if_pos (by omega), ← List.getD_eq_getElem?_getD]
    exact wts2_first _ _ h2
  · rename_i hT
    rw [if_neg hT] at h
    cases l0 with
    | nil => simp at h
    | cons y ys => rfl
theorem tot_pos {xs : List S45} (hw : Wts xs) (h : 0 < xs.length) (h1 : (xs.getD 0 z45).f1 = 65536) : 0 < tot xs := by
  have h2 := tot_next (xs := xs) (i := 0) h
  have h3 := tot_take hw 1
  have e : tot (xs.take 0) = 0 := rfl
  rw [e, h1] at h2
  rw [h2] at h3
  omega
theorem chancesR_wts (p : Par) (l sn : List Int) (al : List Bool) : Wts (chancesR p l sn al) := by
  unfold chancesR
  split
  · exact later_wts _ _
  · intro x hx; simp at hx
theorem chancesR_first (p : Par) (l sn : List Int) (al : List Bool) (h : 0 < (chancesR p l sn al).length) : ((chancesR p l sn al).getD 0 z45).f1 = 65536 := by
  unfold chancesR at h ⊢
  split
  · rename_i hp
    rw [if_pos hp] at h
    exact later_first _ _ h
  · rename_i hp
    rw [if_neg hp] at h
    simp at h
theorem atf_range (S pos : Int) : 0 ≤ atf S pos 0 ∧ atf S pos 0 < 18446744073709551616 :=
  mixf_range (IntKind.u64.wrap (mixf (IntKind.u64.wrap (mixf (IntKind.u64.wrap (S + 11400714819323198485)) + IntKind.u64.wrap (11400714819323198485 * IntKind.u64.wrap pos))) + IntKind.u64.wrap (11400714819323198485 * IntKind.u64.wrap 0)))
theorem drawn_lt (p : Par) (pos : Int) (xs : List S45) (h : 0 < tot xs) : 0 ≤ drawn p pos xs ∧ drawn p pos xs < tot xs := below_lt (atf p.S pos 0) (tot xs) (atf_range _ _) h
/-- What is chosen, of the list of chances. -/
def chosen (p : Par) (l sn : List Int) (pos : Int) (al : List Bool) : Int := pickf (drawn p pos (chancesR p l sn al)) (chancesR p l sn al)
theorem choose_calls (p : Par) (A : Option Addr) (c : Nat) (l : List Int) (A2 : Option Addr) (c2 : Nat) (sn : List Int) (pos : Int) (A3 : Option Addr) (c3 : Nat) (al : List Bool) (w : World) (hA : kI.C w A l.length l) (hB : kI.C w A2 sn.length sn) (hD : Kd.bool.C w A3 al.length al) (hF : Fits w l sn al) :
    Calls Tryd.prog 22 #[p.v, .slice A l.length c, .slice A2 sn.length c2, .int .i64 pos, .slice A3 al.length c3] w (fun e w' => e = .returned (.tuple #[.int .i64 (chosen p l sn pos al), .int .i64 (errR p)]) ∧ Below w.heap.size w w') := by
  unfold chosen errR chancesR
  by_cases hp : p.ok
  · rw [if_pos hp, if_pos hp]
    exact choose_ok p hp A c l A2 c2 sn pos A3 c3 al w hA hB hD hF
  · rw [if_neg hp, if_neg hp]
    exact choose_no p hp _ _ _ _ _ _ w
#print axioms choose_calls
end Go.Proofs.YtfnphepiopncbaaDoor.Pick
