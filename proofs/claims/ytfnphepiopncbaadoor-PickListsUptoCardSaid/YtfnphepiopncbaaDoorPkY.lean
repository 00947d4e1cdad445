/- The walk of PickLists. Conditions: what the tables hold; the bulk. -/
import Derived.Test.YtfnphepiopncbaaDoorPkG
namespace Go.Proofs.YtfnphepiopncbaaDoor.Pick
open Go.RowKit Go.Proofs.YtfnphepiopncbaaDoorW.PrintWords Go.Proofs.YtfnphepiopncbaaDoorW.PrintLast Go.Proofs.YtfnphepiopncbaaDoorW.PrintMore Go.Proofs.YtfnphepiopncbaaDoor.Srt
open Go.Proofs.YtfnphepiopncbaaDoor.PPickChooses (S45 z45 k45 k45_mk k45_mkM k45_open)
open Go.Proofs.YtfnphepiopncbaaDoor.Heads (kI seqOf kv)
set_option linter.unusedVariables false
set_option linter.unusedSimpArgs false

theorem info45 : (Tryd.prog.info? 45).map (fun i => (i.zero, i.size, i.bytes)) = some (some (.agg #[.int .i64 0, .int .i64 0]), 2, 16) := by kernel_rfl
theorem size45 : (Tryd.prog.info? 45).map (·.size) = some 2 := by kernel_rfl
/-- What Chances answers, with where it lies. -/
def GivesO (W : World) (X : List S45) (err : Int) (e : Ending) (w' : World) : Prop := ∃ A c, e = .returned (.tuple #[.slice A X.length c, .int .i64 err]) ∧ X.length ≤ c ∧ w'.ownsRow W.heap.size 45 2 (.slice A X.length c) X.length (flat X) ∧ (∀ k, (Value.slice A X.length c).ownBlock = some k → W.heap.size ≤ k ∧ k < w'.heap.size) ∧ Below W.heap.size W w'
theorem giveso_calls (p : Par) (A : Option Addr) (c : Nat) (l : List Int) (A2 : Option Addr) (c2 : Nat) (sn : List Int) (A3 : Option Addr) (c3 : Nat) (al : List Bool) (w : World) (hA : kI.C w A l.length l) (hB : kI.C w A2 sn.length sn) (hD : Kd.bool.C w A3 al.length al) (hF : Fits w l sn al) :
    Calls Tryd.prog 16 #[p.v, .slice A l.length c, .slice A2 sn.length c2, .slice A3 al.length c3] w (GivesO w (chancesR p l sn al) (errR p)) := by
  refine Calls.mono (chancesR_calls p A c l A2 c2 sn A3 c3 al w hA hB hD hF) ?_
  rintro e w' ⟨A9, c9, rfl, hc, hrow, hb⟩
  refine ⟨A9, c9, rfl, hc, hrow, fun k hk => ?_, hb⟩
  have hR := R_flat hrow
  refine ⟨Kd.R_base hR k hk, ?_⟩
  rcases hrow.2 with ⟨hv, _⟩ | ⟨g', cap', cur, hv, hb2, hh, _⟩
  · rw [hv] at hk; simp [Value.ownBlock] at hk
  · rw [hv] at hk
    simp [Value.ownBlock] at hk
    subst hk
    exact blk_lt hh
theorem chs_of {w : World} {base : Nat} {A : Option Addr} {c : Nat} {X : List S45} (h : w.ownsRow base 45 2 (.slice A X.length c) X.length (flat X)) : Chs w A X := by
  obtain ⟨A', c', e, _, hch, _⟩ := Chs.of_row h
  cases e
  exact hch
def seven : S45 := ⟨-7, 1⟩
def eight : S45 := ⟨-8, 0⟩
set_option maxHeartbeats 4000000 in
set_option maxRecDepth 100000 in
theorem lists_walk (T K P N S : Int) (A : Option Addr) (c : Nat) (l : List Int) (A2 : Option Addr) (c2 : Nat) (sn : List Int) (A3 : Option Addr) (c3 : Nat) (al : List Bool) (w : World) (hA : kI.C w A l.length l) (hB : kI.C w A2 sn.length sn) (hD : Kd.bool.C w A3 al.length al) (hcA : l.length ≤ c) (hcB : sn.length ≤ c2) (hcD : al.length ≤ c3) (hF : Fits w l sn al) (hs : sn.length ≤ 1048576) :
    Calls Tryd.prog 5 #[.agg #[.int .i64 T, .int .i64 K, .int .i64 P, .int .i64 N, .int .u64 S], .slice A l.length c, .slice A2 sn.length c2, .slice A3 al.length c3] w (Yes w) := by
  have hnb : l.length ≤ 1048576 := hF.ll
  have HWK : Aside0 (∀ W, Below w.heap.size w W → Calls Tryd.prog 12 #[] W (fun e w' => e = .returned (.bool true) ∧ Below W.heap.size W w')) := ⟨fun W hb => works_calls W (hF.laid.move hb)⟩
  have HBK : Aside0 (∀ W, Below w.heap.size w W → Calls Tryd.prog 25 #[] W (fun e w' => e = .returned (.bool true) ∧ Below W.heap.size W w')) := ⟨fun W hb => book_calls W (hF.laid.move hb)⟩
  obtain ⟨n, hn⟩ : ∃ n, n = l.length := ⟨_, rfl⟩
  have hRF : ∀ W A7 c7 l', Below w.heap.size w W → l'.length = n → n ≤ c7 → kI.C W A7 n l' → Calls Tryd.prog 17 #[.agg #[.int .i64 T, .int .i64 K, .int .i64 P, .int .i64 N, .int .u64 S], .slice A7 n c7, .slice A2 sn.length c2, .slice A3 al.length c3] W (Gives W (chancesR ⟨T, K, P, N, S⟩ l' sn al) (errR ⟨T, K, P, N, S⟩)) := fun W A7 c7 l' hb hl hc hC => by
    rw [← hl] at hC hc ⊢
    exact ref_calls T K P N S A7 c7 l' A2 c2 sn A3 c3 al W hC (Kd.C_below hB hb) (Kd.C_below hD hb) hc hcB hcD (by omega) hs
  have hCH : ∀ W A7 c7 l', Below w.heap.size w W → l'.length = n → kI.C W A7 n l' → Calls Tryd.prog 16 #[.agg #[.int .i64 T, .int .i64 K, .int .i64 P, .int .i64 N, .int .u64 S], .slice A7 n c7, .slice A2 sn.length c2, .slice A3 al.length c3] W (GivesO W (chancesR ⟨T, K, P, N, S⟩ l' sn al) (errR ⟨T, K, P, N, S⟩)) := fun W A7 c7 l' hb hl hC => by
    rw [← hl] at hC ⊢
    exact giveso_calls ⟨T, K, P, N, S⟩ A7 c7 l' A2 c2 sn A3 c3 al W hC (Kd.C_below hB hb) (Kd.C_below hD hb) ⟨by omega, hF.ls, hF.wf, hF.laid.move hb⟩
  have hCW : ∀ W A7 c7 l', l'.length = n → kI.C W A7 n l' → Calls Tryd.prog 24 #[.slice A7 n c7] W (Copy64 W l') := fun W A7 c7 l' hl hC => by
    rw [← hl] at hC ⊢
    exact copywide_calls A7 c7 l' W hC (by omega)
  have HXL : Aside0 (∀ l', l'.length = n → (chancesR ⟨T, K, P, N, S⟩ l' sn al).length ≤ 1048576) := ⟨fun l' hl => by have := chancesR_len ⟨T, K, P, N, S⟩ l' sn al; omega⟩
  have HEQ : Aside0 (∀ X : List S45, X.length ≤ 1048576 → ∀ W A c B c2, Chs W A X → Chs W B X → Calls Tryd.prog 18 #[.slice A X.length c, .slice B X.length c2] W (Says (.bool true) W)) := ⟨fun X hX W A c B c2 h1 h2 => eqch_calls A c B c2 X W h1 h2 hX⟩
  obtain ⟨er, her⟩ : ∃ er, errR ⟨T, K, P, N, S⟩ = er := ⟨_, rfl⟩
  obtain ⟨ch, hch⟩ : ∃ ch : List Int → List S45, ch = fun l' => chancesR ⟨T, K, P, N, S⟩ l' sn al := ⟨_, rfl⟩
  have hch2 : ∀ l', chancesR ⟨T, K, P, N, S⟩ l' sn al = ch l' := fun l' => by rw [hch]
  simp only [hch2, her] at hRF hCH HXL
  unfold Gives at hRF
  unfold GivesO at hCH
  unfold Copy64 at hCW
  obtain ⟨X, hX⟩ : ∃ X, ch l = X := ⟨_, rfl⟩
  have hXb := HXL.out l hn.symm
  rw [hX] at hXb
  obtain ⟨xl, hxl⟩ : ∃ xl, xl = X.length := ⟨_, rfl⟩
  have hRF1 := fun W hb => hRF W A c l hb hn.symm (by omega)
  have hCH1 := fun W hb => hCH W A c l hb hn.symm
  rw [hX, ← hxl] at hRF1 hCH1
  have HEQ1 := HEQ.out X hXb
  rw [← hxl] at HEQ1 hXb
  have HRF := Aside0.mk hRF
  have HCH := Aside0.mk hCH
  have HCW := Aside0.mk hCW
  have HRF1 := Aside0.mk hRF1
  have HCH1 := Aside0.mk hCH1
  have HE1 := Aside0.mk HEQ1
  have HA : Aside0 (kI.C w A n l) := ⟨by rw [hn]; exact hA⟩
  have HNL := Aside0.mk hn.symm
  have HXX := Aside0.mk hxl
  obtain ⟨m, hm⟩ : ∃ m, m = sn.length := ⟨_, rfl⟩
  obtain ⟨a, ha⟩ : ∃ a, a = al.length := ⟨_, rfl⟩
  rw [← hn, ← hm, ← ha]
  rw [← hm, ← ha] at HRF HCH HRF1 HCH1
  have hnb2 : n ≤ 1048576 := by omega
  obtain ⟨bx, hbx⟩ : ∃ bx, bx = w.heap.size := ⟨_, rfl⟩
  clear hA hB hD hF hs hcA hcB hcD hnb hRF hCH hCW hRF1 hCH1 HEQ1 her hch hch2 hX hxl hn hm ha
  go_enter Tryd.func5, Tryd.ntmps5
  go_upto_region 1 with fail
  rw [← hbx]
  refine name_world (X := fun w1 => Code.wp _ _ _ _ w1) fun w1 hw1 => ?_
  have hp1 : PBlk w1 bx T K P N S := by rw [hw1, hbx]; exact PBlk.new w T K P N S
  have hb1 : Below w.heap.size w w1 := by rw [hw1]; exact below_alloc (Below.refl _ _) _
  have HP1 := Aside0.mk hp1
  have HB1 := Aside0.mk hb1
  clear hw1 hp1 hb1 hbx
  go_upto_region 2 with (first | (go_at_call 12; (with_reducible refine Calls.mono (HWK.out _ HB1.out) ?_); rintro e w2 ⟨rfl, hb2⟩) | fail)
  have HP2 := Aside0.mk (HP1.out.move hb2)
  have HB2 := Aside0.mk (below_then HB1.out HB1.out.size hb2)
  clear hb2 HWK HP1 HB1
  have y0 := HP2.out.box.c0
  have y1 := HP2.out.box.c1
  have y2 := HP2.out.box.c2
  have y3 := HP2.out.box.c3
  have y4 := HP2.out.box.c4
  go_upto_region 3 with (first | (go_at_call 17; (with_reducible refine Calls.mono (HRF1.out _ HB2.out (Kd.C_below HA.out HB2.out)) ?_); rintro e w3 ⟨A10, c10, rfl, _, h10, hb3⟩) | fail)
  have HP3 := Aside0.mk (HP2.out.move hb3)
  have HB3 := Aside0.mk (below_then HB2.out HB2.out.size hb3)
  have H10 := Aside0.mk h10
  clear hb3 h10 HP2 HB2 y0 y1 y2 y3 y4
  have y0 := HP3.out.box.c0
  have y1 := HP3.out.box.c1
  have y2 := HP3.out.box.c2
  have y3 := HP3.out.box.c3
  have y4 := HP3.out.box.c4
  go_upto_region 4 with (first | (go_at_call 16; (with_reducible refine Calls.mono (HCH1.out _ HB3.out (Kd.C_below HA.out HB3.out)) ?_); rintro e w4 ⟨A12, c12, rfl, _, r12, o12, hb4⟩) | fail)
  have HB4 := Aside0.mk (below_then HB3.out HB3.out.size hb4)
  have HB34 := Aside0.mk hb4
  have R12 := Aside0.mk r12
  have O12 := Aside0.mk o12
  have hp4 := HP3.out.move hb4
  clear hb4 r12 o12 y0 y1 y2 y3 y4
  have y0 := hp4.box.c0
  have y1 := hp4.box.c1
  have y2 := hp4.box.c2
  have y3 := hp4.box.c3
  have y4 := hp4.box.c4
  clear hp4
  go_upto_region 5 with (first | (go_at_call 16; (with_reducible refine Calls.mono (HCH1.out _ HB4.out (Kd.C_below HA.out HB4.out)) ?_); rintro e w5 ⟨A14, c14, rfl, _, r14, o14, hb5⟩) | fail)
  have HB35 := Aside0.mk (below_then HB34.out HB34.out.size hb5)
  have R12b : Aside0 (Kd.R k45 45 w5 w3.heap.size (fun _ => True) (.slice A12 xl c12) X) := ⟨by
    have h := pw_own_below R12.out hb5
    rw [HXX.out] at h ⊢
    exact R_flat h⟩
  have HS45 : Aside0 (w3.heap.size ≤ w4.heap.size ∧ w4.heap.size ≤ w5.heap.size) := ⟨HB34.out.size, hb5.size⟩
  have R14 := Aside0.mk r14
  have O14 := Aside0.mk o14
  clear hb5 r14 o14 y0 y1 y2 y3 y4 HB4 HB34 R12
  go_wp2_with fail
  go_loopg [16] xl (fun gk v16 wr => ∃ (i : Nat) (L : List S45), v16 = .int .i64 i ∧ i ≤ xl ∧ xl ≤ i + gk ∧ L.length = xl ∧ Aside0 (Kd.R k45 45 wr w3.heap.size (fun _ => True) (.slice A12 xl c12) L) ∧ Aside0 (wr.ownsRow w4.heap.size 45 2 (.slice A14 xl c14) xl (flat X)) ∧ Aside0 (Below w3.heap.size w3 wr) ∧ w5.heap.size ≤ wr.heap.size)
  case atStart => exact ⟨0, X, rfl, by omega, by omega, HXX.out.symm, R12b, R14, HB35, Nat.le_refl _⟩
  case round =>
    clear R12b R14 HB35
    obtain ⟨i, L, rfl, hi, hg, hL, HR, HR14, HBr, hsz⟩ := hrel
    by_cases hlt : i < xl
    · obtain ⟨g, cp, e9, gb, gl, _⟩ := Kd.R_form HR.out (by omega)
      injection e9 with ea en ec
      subst ea
      subst ec
      obtain ⟨ad, cs, e1, hcl, hK, hcell⟩ := Kd.C_get (Kd.R_reads' HR.out).2.2 z45 (i : Int) (by omega) (by omega)
      cases e1
      have hcc : ∀ j u, cs[j]? = some u → wr.cell? ⟨g, (i : Int).toNat * 2 + j, none⟩ = some u := fun j u hu => by
        have := hcell j u hu
        rw [add_plain] at this
        exact this
      have hcs2 : cs.drop 2 = [] := List.drop_of_length_le (by rw [hcl]; exact Nat.le_refl _)
      have HM : Aside0 (k45.M wr w3.heap.size (fun _ => False) seven (cs.take 0 ++ [.int .i64 (-7), .int .i64 1] ++ cs.drop (0 + 2))) := ⟨by
        rw [List.take_zero, Nat.zero_add, hcs2]
        exact k45_mkM _ _ _ seven⟩
      have HCC := Aside0.mk hcc
      have HCL := Aside0.mk hcl
      have hGO := O12.out g rfl
      have HGO := Aside0.mk hGO
      have hneb : ∀ k, (Value.slice A14 xl c14).ownBlock = some k → k ≠ g := fun k hk => by have := (O14.out k hk).1; omega
      have hne : (Value.slice A14 xl c14).ownBlock = none ∨ (Value.slice A14 xl c14).ownBlock ≠ some g := by
        rcases ho : (Value.slice A14 xl c14).ownBlock with _ | k
        · exact .inl rfl
        · exact .inr (fun h => by injection h with h; exact hneb k ho h)
      have HNE := Aside0.mk hne
      have hnegf : (i : Int) < (xl : Int) := by omega
      have hnn : (0 : Int) ≤ (i : Int) := by omega
      clear hK hcell gb gl hcc hcl hcs2 hGO hneb hne en
      go_wp2_with (first | ((with_reducible refine gate_ (.store 45 (.tmp 65) (.tmp 64)) rfl ?_); refine Kd.R_store k45 (w0 := w3) w3.heap.size rfl rfl 45 (.tmp 65) (.tmp 64) rfl 45 (i : Int) 0 L seven (.agg #[.int .i64 (-7), .int .i64 1]) [.int .i64 (-7), .int .i64 1] cs (fun _ => True) (fun _ => False) rfl ?aO rfl rfl size45 ?a1 HR.out hnn hnegf HCL.out HCC.out (by decide) HM.out (fun _ h => h.elim) HBr.out ?_; (case aO => (first | rfl | (simp; done) | (simp; omega))); (case a1 => (intro q hq; simp at hq; rcases hq with rfl | rfl <;> rfl)); intro w6 hr6 hb6 hg6; have HR6 := Aside0.mk hr6; have HB6 := Aside0.mk hb6; have HR14b := Aside0.mk (HR14.out.kept hg6 HNE.out); have hsz6 := hg6.size; clear hr6 hb6 hg6) | fail)
      go_roundg (xl - (i + 1))
      case measure => omega
      case rel => exact ⟨i + 1, L.set (i : Int).toNat seven, by first | rfl | (simp; done), by omega, by omega, by rw [List.length_set]; exact hL, HR6, HR14b, HB6, by omega⟩
    · obtain rfl : i = xl := by omega
      have h17 : Aside0 (∀ k, (Value.slice A12 i c12).ownBlock = some k → k < w4.heap.size ∨ w5.heap.size ≤ k) := ⟨fun k hk => .inl (O12.out k hk).2⟩
      clear hg hi
      go_wp2_with fail
      go_loopg [17, 18] 64 (fun gk v17 v18 wr => ∃ (j : Nat) (L : List S45), v18 = .int .i64 j ∧ j ≤ 64 ∧ 64 ≤ j + gk ∧ L.length = i + j ∧ Aside0 (Kd.R k45 45 wr w3.heap.size (fun _ => True) v17 L) ∧ Aside0 (∀ k, v17.ownBlock = some k → k < w4.heap.size ∨ w5.heap.size ≤ k) ∧ Aside0 (wr.ownsRow w4.heap.size 45 2 (.slice A14 i c14) i (flat X)) ∧ Aside0 (Below w3.heap.size w3 wr) ∧ w5.heap.size ≤ wr.heap.size)
      case atStart => exact ⟨0, L, rfl, by omega, by omega, by omega, HR, h17, HR14, HBr, hsz⟩
      case round =>
        clear h17 HR HR14 HBr hsz hL
        obtain ⟨j, L2, rfl, hj, hgj, hL2, HR, H17, HR14, HBr, hsz⟩ := hrel
        by_cases hlt2 : j < 64
        · have hne : (Value.slice A14 i c14).ownBlock = none ∨ (Value.slice A14 i c14).ownBlock ≠ u17.ownBlock := by
            rcases ho : (Value.slice A14 i c14).ownBlock with _ | k
            · exact .inl rfl
            · refine .inr fun h => ?_
              have h1 := O14.out k ho
              have h2 := H17.out k h.symm
              omega
          have HNE := Aside0.mk hne
          have hsl : (L2.length + 1) * 16 ≤ 140737488355328 := by omega
          have HSL := Aside0.mk hsl
          clear hne hsl
          go_wp2_with (first | ((with_reducible refine gate_builtin (b := .append) (xs := #[.tmp 71, .tmp 73]) rfl ?_); at_builtin; refine Kd.R_append k45 (w0 := w3) w3.heap.size rfl (.tmp 71) (.tmp 73) 32 45 (.agg #[(.int .i64 0), (.int .i64 0)]) 16 rfl Tryd.underlying32 info45 rfl (by decide) (by omega) _ L2 eight [.int .i64 (-8), .int .i64 0] (fun _ => True) (fun _ => False) rfl rfl ?aP (fun _ hk => hk.elim) (fun _ _ => trivial) HR.out HBr.out HBr.out.size HSL.out ?_; (case aP => exact k45_mkM _ _ _ eight); intro v6 w6 hr6 hb6 hg6 hat6; have HR6 := Aside0.mk hr6; have HB6 := Aside0.mk hb6; have HR14b := Aside0.mk (HR14.out.kept hg6 HNE.out); have hsz6 := hg6.size; have HAT6 := Aside0.mk hat6; clear hr6 hb6 hg6 hat6) | fail)
          go_roundg (64 - (j + 1))
          case measure => omega
          case rel =>
            refine ⟨j + 1, L2 ++ [eight], by first | rfl | (simp; done), by omega, by omega, by simp; omega, HR6, ⟨fun k hk => ?_⟩, HR14b, HB6, by omega⟩
            rcases HAT6.out with h | ⟨b, h, hb⟩
            · exact H17.out k (h.symm.trans hk)
            · have e := h.symm.trans hk
              injection e with e
              omega
        · obtain rfl : j = 64 := by omega
          obtain ⟨A17, c17, e17⟩ := Kd.R_slice HR.out
          subst e17
          rw [hL2]
          have HBW : Aside0 (Below w.heap.size w wr) := ⟨below_then HB3.out HB3.out.size HBr.out⟩
          have h14 : Chs wr A14 X := by
            have h := HR14.out
            rw [HXX.out] at h
            exact chs_of h
          have h10 := H10.out.below HBr.out
          have HE := Aside0.mk (HE1.out wr A14 c14 A10 c10 h14 h10)
          have hp := HP3.out.move HBr.out
          clear hgj hj hlt2 hL2 H17 HR HR14 h14 hsz
          go_upto_region 15 with (first | (go_at_call 18; (with_reducible refine Calls.mono HE.out ?_); rintro e w6 ⟨rfl, q6, rfl⟩) | fail)
          refine name_world (X := fun w1 => Code.wp _ _ _ _ w1) fun w7 hw7 => ?_
          have HB7 : Aside0 (Below w.heap.size w w7) := ⟨by rw [hw7]; exact pw_below_drewN HBW.out _⟩
          have HP7 : Aside0 (PBlk w7 bx T K P N S) := ⟨by rw [hw7]; exact hp⟩
          have H10b : Aside0 (Chs w7 A10 X) := ⟨by rw [hw7]; exact h10⟩
          clear hw7 h10 hp HE HBW HBr
          have y0 := HP7.out.box.c0
          have y1 := HP7.out.box.c1
          have y2 := HP7.out.box.c2
          have y3 := HP7.out.box.c3
          have y4 := HP7.out.box.c4
          go_upto_region 16 with (first | (go_at_call 16; (with_reducible refine Calls.mono (HCH1.out _ HB7.out (Kd.C_below HA.out HB7.out)) ?_); rintro e w8 ⟨A20, c20, rfl, _, r20, _, hb8⟩) | fail)
          have h20 : Chs w8 A20 X := by
            rw [HXX.out] at r20
            exact chs_of r20
          have HE := Aside0.mk (HE1.out w8 A20 c20 A10 c10 h20 (H10b.out.below hb8))
          have HB8 := Aside0.mk (below_then HB7.out HB7.out.size hb8)
          have HP8 := Aside0.mk (HP7.out.move hb8)
          clear hb8 r20 h20 y0 y1 y2 y3 y4 HP7 HB7 H10b
          go_upto_region 17 with (first | (go_at_call 18; (with_reducible refine Calls.mono HE.out ?_); rintro e w9 ⟨rfl, q9, rfl⟩) | fail)
          refine name_world (X := fun w1 => Code.wp _ _ _ _ w1) fun w9 hw9 => ?_
          have HB9 : Aside0 (Below w.heap.size w w9) := ⟨by rw [hw9]; exact pw_below_drewN HB8.out _⟩
          have HP9 : Aside0 (PBlk w9 bx T K P N S) := ⟨by rw [hw9]; exact HP8.out⟩
          clear hw9 HE HB8 HP8
          go_upto_region 18 with (first | (go_at_call 24; (with_reducible refine Calls.mono (HCW.out _ A c l HNL.out (Kd.C_below HA.out HB9.out)) ?_); rintro e w10 ⟨v23, rfl, r23, hb10⟩) | fail)
          obtain ⟨A23, c23, rfl, hc23, _, hC23⟩ := row_C r23
          rw [HNL.out] at hc23 hC23 ⊢
          have HR23 : Aside0 (Kd.R kI 2 w10 w9.heap.size (fun _ => True) (.slice A23 n c23) l) := ⟨by rw [← HNL.out]; exact Kd.R_of_own (enc := Value.int .i64) r23 (fun _ _ => trivial)⟩
          have HB10 := Aside0.mk (below_then HB9.out HB9.out.size hb10)
          have HB910 := Aside0.mk hb10
          have HP10 := Aside0.mk (HP9.out.move hb10)
          have HC23 := Aside0.mk hC23
          have HCC23 := Aside0.mk hc23
          clear hb10 r23 hc23 hC23
          have y0 := HP10.out.box.c0
          have y1 := HP10.out.box.c1
          have y2 := HP10.out.box.c2
          have y3 := HP10.out.box.c3
          have y4 := HP10.out.box.c4
          go_upto_region 19 with (first | (go_at_call 16; (with_reducible refine Calls.mono (HCH.out _ A23 c23 l HB10.out HNL.out HC23.out) ?_); rintro e w11 ⟨A24, c24, rfl, _, _, _, hb11⟩) | fail)
          have HR11 : Aside0 (Kd.R kI 2 w11 w9.heap.size (fun _ => True) (.slice A23 n c23) l) := ⟨Kd.R_below HR23.out hb11⟩
          have HB11 : Aside0 (Below w9.heap.size w9 w11) := ⟨below_then HB910.out HB910.out.size hb11⟩
          clear hb11 y0 y1 y2 y3 y4 HB10 HB910 HP10 HC23 HR23
          obtain ⟨hf, hhf⟩ : ∃ hf : Nat, hf = n / 2 := ⟨_, rfl⟩
          have v1 : IntKind.i64.wrap ((n : Int) / 2) = (hf : Int) := by rw [IntWalk.i64_left]; unfold wrap64; omega
          have v2 : wrap64 ((n : Int) / 2) = (hf : Int) := by unfold wrap64; omega
          have v3 : IntKind.i64.wrap ((n : Int) - 1) = (n : Int) - 1 := by rw [IntWalk.i64_left]; unfold wrap64; omega
          have v4 : wrap64 ((n : Int) - 1) = (n : Int) - 1 := by unfold wrap64; omega
          have HV : Aside0 ((IntKind.i64.wrap ((n : Int) / 2) = (hf : Int) ∧ wrap64 ((n : Int) / 2) = (hf : Int)) ∧ IntKind.i64.wrap ((n : Int) - 1) = (n : Int) - 1 ∧ wrap64 ((n : Int) - 1) = (n : Int) - 1) := ⟨⟨⟨v1, v2⟩, v3, v4⟩⟩
          have HHF : Aside0 (2 * hf ≤ n) := ⟨by rw [hhf]; exact Nat.mul_div_le n 2⟩
          clear v1 v2 v3 v4 hhf
          go_wp2_with fail
          go_loopg [24, 25] hf (fun gk v24 v25 wr => ∃ (i : Nat) (l' : List Int), v24 = .int .i64 i ∧ i ≤ hf ∧ hf ≤ i + gk ∧ l'.length = n ∧ Aside0 (Kd.R kI 2 wr w9.heap.size (fun _ => True) (.slice A23 n c23) l') ∧ Aside0 (Below w9.heap.size w9 wr))
          case atStart => exact ⟨0, l, rfl, Nat.zero_le _, Nat.le_of_eq (Nat.zero_add _).symm, HNL.out, HR11, HB11⟩
          case round =>
            clear HR11 HB11
            obtain ⟨r, l', rfl, hr, hgr, hl', HR, HBr⟩ := hrel
            by_cases hlt3 : r < hf
            · have h2 := HHF.out
              obtain ⟨g, cp, e9, gb, gl, _⟩ := Kd.R_form HR.out (by omega)
              injection e9 with ea en ec
              subst ea
              subst ec
              obtain ⟨j, hj⟩ : ∃ j : Nat, j = n - 1 - r := ⟨_, rfl⟩
              have hrn : r < n := by omega
              have hjn : j < n := by omega
              have hjs : (j : Int) = (n : Int) - 1 - (r : Int) := by omega
              clear h2 hj
              have s1 : IntKind.i64.wrap ((n : Int) - 1 - (r : Int)) = (j : Int) := by rw [← hjs, IntWalk.i64_left]; exact w64 ⟨by omega, by omega⟩
              have s2 : wrap64 ((n : Int) - 1 - (r : Int)) = (j : Int) := by rw [← hjs]; exact w64 ⟨by omega, by omega⟩
              clear hjs
              obtain ⟨x1, f1⟩ := Kd.R_celln 0 HR.out (r : Int) (by omega) (by omega)
              obtain ⟨x2, f2⟩ := Kd.R_celln 0 HR.out (j : Int) (by omega) (by omega)
              rw [Int.toNat_natCast] at x1 f1 x2 f2
              obtain ⟨u1, hu1⟩ : ∃ u, rdOf 0 l' (r : Int) = u := ⟨_, rfl⟩
              obtain ⟨u2, hu2⟩ : ∃ u, rdOf 0 l' (j : Int) = u := ⟨_, rfl⟩
              rw [hu1] at x1
              rw [hu2] at x2
              have HGB := Aside0.mk gb
              clear gb gl hu1 hu2 en
              obtain ⟨⟨v1, v2⟩, v3, v4⟩ := HV.out
              have b3 : decide (r < hf) = true := by simpa using hlt3
              go_upto_region 24 with fail
              refine name_world (X := fun w1 => Code.wp _ _ _ _ w1) fun w12 hw12 => ?_
              have hr12 : Kd.R kI 2 w12 w9.heap.size (fun _ => True) (.slice (some ⟨g, 0, none⟩) n c23) (l'.set r u2) := by
                have h := (Kd.R_putg HR.out (r : Int) u2).1
                rw [Int.toNat_natCast] at h
                rw [hw12]
                exact h
              have hb12 : Below w9.heap.size w9 w12 := by rw [hw12]; exact HBr.out.setCell (p := ⟨g, r, none⟩) HGB.out _
              obtain ⟨x3, f3⟩ := Kd.R_celln 0 hr12 (j : Int) (by omega) (by omega)
              rw [Int.toNat_natCast] at x3 f3
              have HR12 := Aside0.mk hr12
              have HB12 := Aside0.mk hb12
              clear hw12 hr12 hb12 x1 f1 x2 f2 HR HBr
              go_wp2_with fail
              clear v1 v2 v3 v4 s1 s2
              go_roundg (hf - (r + 1))
              case measure => omega
              case rel =>
                refine ⟨r + 1, (l'.set r u2).set j u1, by first | rfl | (simp; done), by omega, by omega, by rw [List.length_set, List.length_set]; exact hl', ⟨?_⟩, ⟨HB12.out.setCell (p := ⟨g, j, none⟩) HGB.out _⟩⟩
                have h := (Kd.R_putg HR12.out (j : Int) u1).1
                rw [Int.toNat_natCast] at h
                exact h
            · obtain rfl : r = hf := Nat.le_antisymm hr (Nat.le_of_not_lt hlt3)
              obtain ⟨⟨v1, v2⟩, v3, v4⟩ := HV.out
              have b3 : decide (r < r) = false := by simp
              have HBW : Aside0 (Below w.heap.size w wr) := ⟨below_then HB9.out HB9.out.size HBr.out⟩
              have HPw := Aside0.mk (HP9.out.move HBr.out)
              have HCx : Aside0 (kI.C wr A23 n l') := ⟨by
                have h := (Kd.R_reads' HR.out).2.2
                rw [hl'] at h
                exact h⟩
              have HLL := Aside0.mk hl'
              have hXb := HXL.out l' hl'
              obtain ⟨Y, hY⟩ : ∃ Y, ch l' = Y := ⟨_, rfl⟩
              rw [hY] at hXb
              have HEY := HEQ.out Y hXb
              have hRY := fun W A7 c7 h1 h2 h3 => HRF.out W A7 c7 l' h1 HLL.out h2 h3
              have hCY := fun W A7 c7 h1 h2 => HCH.out W A7 c7 l' h1 HLL.out h2
              simp only [hY] at hRY hCY
              obtain ⟨yl, hyl⟩ : ∃ yl, yl = Y.length := ⟨_, rfl⟩
              have HYL := Aside0.mk hyl
              rw [← hyl] at HEY hRY hCY
              have HEY := Aside0.mk HEY
              have HRY := Aside0.mk hRY
              have HCY := Aside0.mk hCY
              clear hgr hr hlt3 hY hyl hXb hRY hCY hl' HR HBr HRF HCH HEQ HXL HE1 HP9
              have y0 := HPw.out.box.c0
              have y1 := HPw.out.box.c1
              have y2 := HPw.out.box.c2
              have y3 := HPw.out.box.c3
              have y4 := HPw.out.box.c4
              go_wp2_with fail
              clear v1 v2 v3 v4 b3
              go_region_held3 (fun w' => w'.cell? ⟨bx, 0, none⟩ = some (.int .i64 T) ∧ w'.cell? ⟨bx, 1, none⟩ = some (.int .i64 K) ∧ w'.cell? ⟨bx, 2, none⟩ = some (.int .i64 P) ∧ w'.cell? ⟨bx, 3, none⟩ = some (.int .i64 N) ∧ w'.cell? ⟨bx, 4, none⟩ = some (.int .u64 S)) (first | go_keep | fail) (first | (go_at_call 24; (with_reducible refine Calls.mono (HCW.out _ A23 c23 l' HLL.out ?_) ?_); (exact HCx.out); rintro e w13 ⟨v31, rfl, r31, hb13⟩; obtain ⟨A31, c31, rfl, hc31, _, hC31⟩ := row_C r31; rw [HLL.out] at hc31 hC31 ⊢; have z0 := pw_cell_below hb13 (show World.cell? wr.drew _ = _ from y0); have z1 := pw_cell_below hb13 (show World.cell? wr.drew _ = _ from y1); have z2 := pw_cell_below hb13 (show World.cell? wr.drew _ = _ from y2); have z3 := pw_cell_below hb13 (show World.cell? wr.drew _ = _ from y3); have z4 := pw_cell_below hb13 (show World.cell? wr.drew _ = _ from y4); have HB13 := Aside0.mk hb13; have HC31 := Aside0.mk hC31; have HCC31 := Aside0.mk hc31; clear hb13 hC31 hc31 r31) | (go_at_call 17; (with_reducible refine Calls.mono (HRY.out _ A31 c31 ?_ HCC31.out HC31.out) ?_); (exact below_then (below_drew HBW.out) HBW.out.size HB13.out); rintro e w14 ⟨A32, c32, rfl, _, h32, hb14⟩; have x0 := pw_cell_below hb14 z0; have x1 := pw_cell_below hb14 z1; have x2 := pw_cell_below hb14 z2; have x3 := pw_cell_below hb14 z3; have x4 := pw_cell_below hb14 z4) | fail)
              have HB14 := Aside0.mk (below_then (below_then (below_drew HBW.out) HBW.out.size HB13.out) (Nat.le_trans HBW.out.size HB13.out.size) hb14)
              have HW14 := Aside0.mk (HB13.out.trans (hb14.mono HB13.out.size))
              have H32 := Aside0.mk h32
              clear hb14 h32 z0 z1 z2 z3 z4 x0 x1 x2 x3 x4 y0 y1 y2 y3 y4
              have hp14 : PBlk w14 bx T K P N S := (show PBlk wr.drew bx T K P N S from HPw.out).move HW14.out
              have HC14 : Aside0 (kI.C w14 A23 n l') := ⟨Kd.C_below (show kI.C wr.drew A23 n l' from HCx.out) HW14.out⟩
              have y0 := hp14.box.c0
              have y1 := hp14.box.c1
              have y2 := hp14.box.c2
              have y3 := hp14.box.c3
              have y4 := hp14.box.c4
              clear hp14
              have te : (er == er) = true := by simp
              have u1 : IntKind.i64.wrap ((i : Int) + 64) = (i : Int) + 64 := by rw [IntWalk.i64_left]; exact w64 ⟨by omega, by omega⟩
              have u2 : wrap64 ((i : Int) + 64) = (i : Int) + 64 := w64 ⟨by omega, by omega⟩
              have u3 : ((((i + 64 : Nat) : Int)) == (i : Int) + 64) = true := by simp
              have u4 : (((i : Int) + 64) == (i : Int) + 64) = true := by simp
              go_wp2_with (first | (go_at_call 16; (with_reducible refine Calls.mono (HCY.out _ A23 c23 HB14.out HC14.out) ?_); rintro e w15 ⟨A34, c34, rfl, _, r34, _, hb15⟩; have HE := Aside0.mk (HEY.out w15 A34 c34 A32 c32 (by have r := r34; rw [HYL.out] at r; exact chs_of r) (H32.out.below hb15)); have HB15 := Aside0.mk (below_then HB14.out HB14.out.size hb15); clear hb15 r34) | (go_at_call 18; (with_reducible refine Calls.mono HE.out ?_); rintro e w16 ⟨rfl, q16, rfl⟩) | (go_at_call 25; (with_reducible refine Calls.mono (HBK.out _ (pw_below_drewN HB15.out _)) ?_); rintro e w17 ⟨rfl, hb17⟩) | fail)
              go_ret
              exact ⟨rfl, below_then (pw_below_drewN HB15.out _) HB15.out.size hb17⟩
#print axioms lists_walk
end Go.Proofs.YtfnphepiopncbaaDoor.Pick
