/- The last two rules. Conditions: what the tables hold. -/
import Derived.Test.YtfnphepiopncbaaDoorPickD
import Derived.Test.YtfnphepiopncbaaDoorQTail
namespace Go.Proofs.YtfnphepiopncbaaDoor.Pick
open Go.RowKit Go.Proofs.YtfnphepiopncbaaDoorW.PrintWords Go.Proofs.YtfnphepiopncbaaDoorW.PrintLast Go.Proofs.YtfnphepiopncbaaDoorW.PrintMore Go.Proofs.YtfnphepiopncbaaDoor.Srt
open Go.Proofs.YtfnphepiopncbaaDoor.PPickSound (S45 z45 k45 k45_mk)
attribute [local go_sem] max2_int min2_int max_two min_two max_three min_three max_four min_four
set_option linter.unusedVariables false
set_option linter.unusedSimpArgs false

theorem Laid.ap {w w' : World} {own : Nat → Prop} (h : Laid w) (ha : Ap own w w') (h0 : ¬ own 0) (h1 : ¬ own 1) : Laid w' :=
  ⟨fun i hi => ha.cell (h.t i hi) h1, ha.cell h.s0 h0, ha.cell h.f0 h0, ha.cell h.s1 h0, ha.cell h.f1 h0, ha.cell h.s2 h0, ha.cell h.f2 h0⟩
/-- A chance's weight by its score. -/
def wtf (T w0 : Int) (x : S45) : S45 := ⟨x.f0, expf ((x.f1 - w0) * 16384 / T)⟩
def Scs (xs : List S45) : Prop := ∀ x ∈ xs, -67108864 ≤ x.f1 ∧ x.f1 ≤ 67108864
/-- From the m-th on they are done. -/
def mx (f : S45 → S45) (xs : List S45) (m : Nat) : List S45 := xs.take m ++ (xs.drop m).map f
theorem mx_len (f : S45 → S45) (xs : List S45) (m : Nat) : (mx f xs m).length = xs.length := by simp [mx]; omega
theorem mx_get {f : S45 → S45} {xs : List S45} {m i : Nat} (hi : i < m) (hm : m ≤ xs.length) : (mx f xs m).getD i z45 = xs.getD i z45 := by
  unfold mx
  rw [List.getD_eq_getElem?_getD, List.getD_eq_getElem?_getD, List.getElem?_append_left (by simp; omega), List.getElem?_take, if_pos hi]
theorem mx_all (f : S45 → S45) (xs : List S45) : mx f xs xs.length = xs := by simp [mx]
theorem mx_none (f : S45 → S45) (xs : List S45) : mx f xs 0 = xs.map f := by simp [mx]
theorem mx_next {f : S45 → S45} {xs : List S45} {m : Nat} (hm : m < xs.length) : (mx f xs (m + 1)).set m (f (xs.getD m z45)) = mx f xs m := by
  unfold mx
  have hl : (xs.take m).length = m := by rw [List.length_take]; omega
  rw [take_nextC hm, List.append_assoc, List.set_append_right _ _ (by omega), hl, Nat.sub_self]
  have e : xs.drop m = xs.getD m z45 :: xs.drop (m + 1) := by
    rw [List.drop_eq_getElem_cons hm]
    congr 1
    simp [List.getD_eq_getElem?_getD, hm]
  rw [e]
  rfl
theorem div_small {a b : Int} (h1 : -2199023255552 ≤ a) (h2 : a ≤ 2199023255552) (hb : 1 ≤ b) : -2199023255552 ≤ a / b ∧ a / b ≤ 2199023255552 := by
  constructor
  · rw [Int.le_ediv_iff_mul_le (by omega)]
    have := Int.mul_le_mul_of_nonneg_left hb (show (0 : Int) ≤ 2199023255552 by decide)
    omega
  · refine Int.le_of_lt_add_one ?_
    rw [Int.ediv_lt_iff_lt_mul (by omega)]
    have := Int.mul_le_mul_of_nonneg_left hb (show (0 : Int) ≤ 2199023255553 by decide)
    omega
set_option maxHeartbeats 600000 in
set_option maxRecDepth 100000 in
theorem rule3_calls (p : Par) (A : Option Addr) (c : Nat) (l : List S45) (w : World) (h : Chs w A l) (hT : 0 < p.T) (hl : l.length ≤ 1048576) (hS : Scs l) (hL : Laid w) (hA : ∀ k, Of A k → 2 ≤ k ∧ k < w.heap.size) :
    Calls Tryd.prog 59 #[p.v, .slice A l.length c] w (Thin w A c (l.map (wtf p.T (l.getD 0 z45).f1)) false) := by
  obtain ⟨T, K, P, pen, S⟩ := p
  unfold Par.v
  dsimp only at *
  obtain ⟨n, hn⟩ : ∃ n, n = l.length := ⟨_, rfl⟩
  obtain ⟨w0, hw0⟩ : ∃ w0, w0 = (l.getD 0 z45).f1 := ⟨_, rfl⟩
  rw [← hw0]
  obtain ⟨F, hF⟩ : ∃ F, F = wtf T w0 := ⟨_, rfl⟩
  rw [← hF]
  rw [← hn] at hl ⊢
  have HH := Aside0.mk h
  have HN := Aside0.mk hn
  have HSC := Aside0.mk hS
  have HLL := Aside0.mk hL
  have HA := Aside0.mk hA
  have HF := Aside0.mk hF
  have HW0 := Aside0.mk hw0
  obtain ⟨bx, hbx⟩ : ∃ bx, bx = w.heap.size := ⟨_, rfl⟩
  clear h hn hS hL hA hF hw0
  go_enter Tryd.func59, Tryd.ntmps59
  go_upto_region 2 with fail
  rw [← hbx]
  refine name_world (X := fun w1 => Code.wp _ _ _ _ w1) fun w1 hw1 => ?_
  have hb1 : Below w.heap.size w w1 := by rw [hw1]; exact below_alloc (Below.refl _ _) _
  have hbox : w1.cell? ⟨bx, 0, none⟩ = some (.int .i64 T) := by rw [hw1, hbx]; simp [go_sem]
  have HBX : Aside0 (¬ Of A bx) := ⟨fun h => by have := HA.out _ h; omega⟩
  have HB1 := Aside0.mk hb1
  have HBOX := Aside0.mk hbox
  clear hw1 hb1 hbox hbx
  go_loopg [6] n (fun gk v6 wr => ∃ m : Nat, v6 = .int .i64 ((m : Int) - 1) ∧ m ≤ n ∧ m ≤ gk ∧ Aside0 (Chs wr A (mx F l m)) ∧ Aside0 (Ap (Of A) w1 wr))
  case atStart => exact ⟨n, by first | rfl | (simp; done) | (unfold wrap64; congr 1; omega), by omega, by omega, ⟨by rw [HN.out, mx_all]; exact HH.out.below HB1.out⟩, ⟨Ap.refl _ _⟩⟩
  case round =>
    obtain ⟨m, hv, hm, hg, HC, HP⟩ := hrel
    cases m with
    | zero =>
      have hv2 : u6 = .int .i64 (-1) := by rw [hv]; rfl
      subst hv2
      clear hv
      go_wp2_with fail
      (try simp only [Exit.inBlock, Exit.then])
      refine bodyPost_ret (results_tmp2 rfl _ _ _) rfl ?_
      have hc := HC.out
      rw [mx_none] at hc
      exact ⟨by rw [List.length_map, ← HN.out]; rfl, hc, (Ap.of_below HB1.out).trans HP.out⟩
    | succ i =>
      have hv2 : u6 = .int .i64 (i : Int) := by rw [hv]; congr 1; omega
      subst hv2
      clear hv
      have hbr : wr.cell? ⟨bx, 0, none⟩ = some (.int .i64 T) := HP.out.cell HBOX.out HBX.out
      have hil : i < l.length := by rw [← HN.out]; omega
      obtain ⟨g, rfl, _, hci, hfi⟩ := HC.out i (by rw [mx_len]; exact hil)
      obtain ⟨g', e, _, hc0, _⟩ := HC.out 0 (by rw [mx_len]; omega)
      cases e
      rw [mx_get (by omega) (by omega)] at hci hc0
      rw [← HW0.out] at hc0
      have hc0' : wr.cell? ⟨g, 1, none⟩ = some (.int .i64 w0) := by simpa using hc0
      obtain ⟨x, hx⟩ : ∃ x, (l.getD i z45).f1 = x := ⟨_, rfl⟩
      rw [hx] at hci
      have hmem : ∀ j, j < l.length → l.getD j z45 ∈ l := fun j hj => by rw [List.getD_eq_getElem?_getD, List.getElem?_eq_getElem hj]; exact List.getElem_mem _
      have b1 := HSC.out _ (hmem i hil)
      have b2 := HSC.out _ (hmem 0 (by omega))
      rw [hx] at b1
      rw [← HW0.out] at b2
      obtain ⟨d, hd⟩ : ∃ d, x - w0 = d := ⟨_, rfl⟩
      obtain ⟨y, hy⟩ : ∃ y, d * 16384 = y := ⟨_, rfl⟩
      have v1 : wrap64 d = d := by unfold wrap64; omega
      have v2 : IntKind.i64.wrap d = d := by rw [IntWalk.i64_left]; exact v1
      have v3 : wrap64 y = y := by unfold wrap64; omega
      have v4 : IntKind.i64.wrap y = y := by rw [IntWalk.i64_left]; exact v3
      have hq := div_small (a := y) (b := T) (by omega) (by omega) (by omega)
      have hLr : Laid wr := (HLL.out.move HB1.out).ap HP.out (fun h => by have := (HA.out _ h).1; omega) (fun h => by have := (HA.out _ h).1; omega)
      have HD : Aside0 (∀ W, Calls Tryd.prog 55 #[.int .i64 y, .int .i64 T] W (Says (.int .i64 (y / T)) W)) := ⟨fun W => div_calls y T W (by omega) (by omega)⟩
      have HE : Aside0 (∀ r, Calls Tryd.prog 60 #[.int .i64 (y / T)] (wr.drewN r) (Says (.int .i64 (expf (y / T))) (wr.drewN r))) := ⟨fun r => exp_calls (y / T) (by omega) _ (hLr.drew r)⟩
      have HU : Aside0 (F (l.getD i z45) = ⟨(l.getD i z45).f0, expf (y / T)⟩) := ⟨by rw [HF.out]; unfold wtf; rw [hx, hd, hy]⟩
      obtain ⟨ev, hev⟩ : ∃ ev, expf (y / T) = ev := ⟨_, rfl⟩
      rw [hev] at HE HU
      obtain ⟨yq, hyq⟩ : ∃ yq, y / T = yq := ⟨_, rfl⟩
      rw [hyq] at HD HE
      clear hx b1 b2 hq hLr hev hyq hmem hc0
      have hin : i < n := by omega
      have h0n : 0 < n := by omega
      go_wp2_with fail
      refine QTail.region_tail 19 (by kernel_rfl) (by kernel_rfl) ?_
      simp only [List.take_succ_cons, List.take_zero, List.drop_succ_cons, List.drop_zero]
      repeat (quiet_step ((first | (go_at_call 55; refine Calls.quiet_of (HD.out _)) | (go_at_call 60; refine Calls.quiet_of (HE.out _)))))
      refine wpQuiet_nil ?_
      intro w' hw'
      obtain ⟨nq, rfl⟩ := hw'
      go_wp2_with fail
      go_roundg (gk - 1)
      case measure => omega
      case rel =>
        have hset := (HC.out.drewN nq).set i (by rw [mx_len]; exact hil) ev
        rw [mx_get (by omega) (by omega), ← HU.out, mx_next hil] at hset
        exact ⟨i, by first | rfl | (simp; done), by omega, by omega, ⟨hset⟩, ⟨(HP.out.drewN nq).setCell (p := ⟨g, i * 2 + 1, none⟩) (.inl ⟨_, rfl, rfl⟩) _⟩⟩
#print axioms rule3_calls
/-- So many first ones reach so much. -/
def cutN (most : Int) : Int → List S45 → Nat
  | _, [] => 0
  | have_, x :: xs => if have_ * 1000 < most then 1 + cutN most (have_ + x.f1) xs else 0
theorem cutN_le (most : Int) : ∀ (xs : List S45) (h : Int), cutN most h xs ≤ xs.length := by
  intro xs
  induction xs with
  | nil => intro h; exact Nat.le_refl _
  | cons x xs ih =>
    intro h
    unfold cutN
    have := ih (h + x.f1)
    rw [List.length_cons]
    split <;> omega
def thinN (P : Int) (xs : List S45) : Nat := cutN (tot xs * P) 0 xs
theorem drop_cons {l : List S45} {i : Nat} (h : i < l.length) : l.drop i = l.getD i z45 :: l.drop (i + 1) := by
  rw [List.drop_eq_getElem_cons h]
  congr 1
  simp [List.getD_eq_getElem?_getD, h]
set_option maxHeartbeats 2000000 in
set_option maxRecDepth 100000 in
theorem rule4_calls (p : Par) (A : Option Addr) (c : Nat) (l : List S45) (w : World) (h : Chs w A l) (hc : l.length ≤ c) (hl : l.length ≤ 1048576) (hW : Wts l) (hP : 1 ≤ p.P ∧ p.P ≤ 1000) :
    Calls Tryd.prog 61 #[p.v, .slice A l.length c] w (Thin w A c (l.take (thinN p.P l)) true) := by
  obtain ⟨T, K, P, pen, S⟩ := p
  unfold Par.v
  dsimp only at *
  obtain ⟨n, hn⟩ : ∃ n, n = l.length := ⟨_, rfl⟩
  have hC := h.C (by omega)
  have HT : Aside0 (∀ W, Below w.heap.size w W → Calls Tryd.prog 43 #[.slice A l.length c] W (fun e w' => e = .returned (.int .i64 (tot l)) ∧ Below W.heap.size W w')) := ⟨fun W hb => total_calls A c l W (Kd.C_below hC hb) hc hl hW⟩
  rw [← hn] at hl hc HT ⊢
  have hr := tot_range hW
  rw [← hn] at hr
  obtain ⟨t, ht⟩ : ∃ t, tot l = t := ⟨_, rfl⟩
  rw [ht] at hr HT
  obtain ⟨most, hmo⟩ : ∃ most, t * P = most := ⟨_, rfl⟩
  have hmr : 0 ≤ most ∧ most ≤ t * 1000 := by
    rw [← hmo]
    exact ⟨Int.mul_nonneg hr.1 (by omega), Int.mul_le_mul_of_nonneg_left hP.2 hr.1⟩
  have v1 : wrap64 most = most := by unfold wrap64; omega
  have v2 : IntKind.i64.wrap most = most := by rw [IntWalk.i64_left]; exact v1
  have HTH : Aside0 (thinN P l = cutN most 0 l) := ⟨by unfold thinN; rw [ht, hmo]⟩
  obtain ⟨N, hN⟩ : ∃ N, cutN most 0 l = N := ⟨_, rfl⟩
  have hNl : N ≤ n := by rw [← hN, hn]; exact cutN_le _ _ _
  rw [hN] at HTH
  have HH := Aside0.mk h
  have HN := Aside0.mk hn
  have HNN := Aside0.mk hN
  have HW := Aside0.mk hW
  have HR := Aside0.mk hr
  have HMR := Aside0.mk hmr
  have HTT := Aside0.mk ht
  obtain ⟨i0, hi0, _, hsz0, _⟩ := info_parts infoCh
  have HCUT : Aside0 (∀ W : World, (Instr.slice 32 (.slice A n c) none (some (.int .i64 N)) none).run Tryd.prog W = .ok (.slice A N c) W) := ⟨cut_hi (P := Tryd.prog) 32 45 .i64 Tryd.underlying32 hi0 A n c (N : Int) (by omega) (by omega)⟩
  obtain ⟨bx, hbx⟩ : ∃ bx, bx = w.heap.size := ⟨_, rfl⟩
  clear h hn hW hr hmr hN hi0 hsz0 ht hP hC
  go_enter Tryd.func61, Tryd.ntmps61
  go_upto_region 1 with fail
  rw [← hbx]
  refine name_world (X := fun w1 => Code.wp _ _ _ _ w1) fun w1 hw1 => ?_
  have hb1 : Below w.heap.size w w1 := by rw [hw1]; exact below_alloc (Below.refl _ _) _
  have hbox : w1.cell? ⟨bx, 2, none⟩ = some (.int .i64 P) := by rw [hw1, hbx]; simp [go_sem]
  have HB1 := Aside0.mk hb1
  clear hw1 hb1 hbx
  go_region_held3 (fun w' => w'.cell? ⟨bx, 2, none⟩ = some (.int .i64 P)) (first | go_keep | (exact pw_cell_below hbz (by assumption)) | fail) (first | (go_at_call 43; (with_reducible refine Calls.mono (HT.out _ ?_) ?_); (first | exact HB1.out | exact pw_below_drewN HB1.out _); rintro e w9 ⟨rfl, hbz⟩) | fail)
  have HB9 : Aside0 (Below w.heap.size w w9) := ⟨below_then (below_drew HB1.out) HB1.out.size hbz⟩
  have HH9 : Aside0 (Chs w9 A l) := ⟨HH.out.below HB9.out⟩
  clear hbz HT hbox HB1
  go_wp2_with fail
  go_loopg [7, 8] n (fun gk v7 v8 wr => ∃ (k : Nat) (h : Int), v8 = .int .i64 k ∧ v7 = .int .i64 h ∧ k ≤ n ∧ n ≤ k + gk ∧ Aside0 (h = tot (l.take k) ∧ k + cutN most h (l.drop k) = N) ∧ Aside0 (∃ q, wr = w9.drewN q))
  case atStart => exact ⟨0, 0, rfl, rfl, by omega, by omega, ⟨by simp [tot], by rw [List.drop_zero, HNN.out]; omega⟩, ⟨0, rfl⟩⟩
  case round =>
    obtain ⟨k, h, rfl, rfl, hk, hg, HI, HQ⟩ := hrel
    have hr2 := tot_range (HW.out.take k)
    rw [← HI.out.1, List.length_take, ← HN.out] at hr2
    have HCr : Aside0 (Chs wr A l) := ⟨by obtain ⟨q, e⟩ := HQ.out; rw [e]; exact HH9.out.drewN q⟩
    have HBr : Aside0 (Below w.heap.size w wr) := ⟨by obtain ⟨q, e⟩ := HQ.out; rw [e]; exact pw_below_drewN HB9.out q⟩
    obtain ⟨hm, hhm⟩ : ∃ hm, h * 1000 = hm := ⟨_, rfl⟩
    have v3 : wrap64 hm = hm := by unfold wrap64; omega
    have v4 : IntKind.i64.wrap hm = hm := by rw [IntWalk.i64_left]; exact v3
    by_cases hlt : hm < most
    · have hkn : k < n := by
        rcases Nat.lt_or_ge k n with h1 | h1
        · exact h1
        · exfalso
          have e : k = n := by omega
          have h2 := HI.out.1
          rw [e, HN.out, List.take_length, HTT.out] at h2
          have h3 := HMR.out.2
          omega
      obtain ⟨g, rfl, _, hci, _⟩ := HCr.out k (by rw [← HN.out]; exact hkn)
      have hx0 := HW.out (l.getD k z45) (by rw [List.getD_eq_getElem?_getD, List.getElem?_eq_getElem (by rw [← HN.out]; exact hkn)]; exact List.getElem_mem _)
      have hnx : tot (l.take (k + 1)) = h + (l.getD k z45).f1 := by rw [take_nextC (by rw [← HN.out]; exact hkn), tot_append, HI.out.1]; simp [tot]
      have hcn : k + 1 + cutN most (h + (l.getD k z45).f1) (l.drop (k + 1)) = N := by
        have h1 := HI.out.2
        rw [drop_cons (by rw [← HN.out]; exact hkn)] at h1
        unfold cutN at h1
        rw [if_pos (by omega)] at h1
        omega
      obtain ⟨x, hx⟩ : ∃ x, (l.getD k z45).f1 = x := ⟨_, rfl⟩
      rw [hx] at hci hx0 hnx hcn
      obtain ⟨hs, hhs⟩ : ∃ hs, h + x = hs := ⟨_, rfl⟩
      rw [hhs] at hnx hcn
      have v5 : wrap64 hs = hs := by unfold wrap64; omega
      have v6 : IntKind.i64.wrap hs = hs := by rw [IntWalk.i64_left]; exact v5
      have HX := Aside0.mk hnx
      have HY := Aside0.mk hcn
      clear hnx hcn hx0 hx hr2
      go_wp2_with fail
      go_roundg (n - (k + 1))
      case measure => omega
      case rel => exact ⟨k + 1, hs, by first | rfl | (simp; done), rfl, by omega, by omega, ⟨HX.out.symm, HY.out⟩, HQ⟩
    · have hkN : k = N := by
        have h1 := HI.out.2
        cases hd : l.drop k with
        | nil => rw [hd] at h1; simpa [cutN] using h1
        | cons y ys =>
          rw [hd] at h1
          unfold cutN at h1
          rw [if_neg (by omega)] at h1
          omega
      subst hkN
      have hcut := HCUT.out
      clear hr2
      go_wp2_with fail
      (try simp only [Exit.inBlock, Exit.then])
      refine bodyPost_ret (results_tmp2 rfl _ _ _) rfl ?_
      rw [HTH.out]
      have e : (l.take k).length = k := by rw [List.length_take, ← HN.out]; omega
      exact ⟨by rw [e]; rfl, HCr.out.take k, Ap.of_below HBr.out⟩
#print axioms rule4_calls
end Go.Proofs.YtfnphepiopncbaaDoor.Pick
