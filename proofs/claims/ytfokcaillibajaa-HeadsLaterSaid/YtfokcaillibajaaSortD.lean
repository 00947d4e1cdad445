/- The sort's merging where the second side is a single number. Conditions: the order's function answers as the values say. -/
import Derived.Test.YtfokcaillibajaaSortC
namespace Go.Proofs.Ytfokcaillibajaa.Srt
open Go.RowKit Go.Proofs.YtfokcaillibajaaW.PrintWords
set_option linter.unusedVariables false
set_option linter.unusedSimpArgs false

set_option maxHeartbeats 8000000 in
set_option maxRecDepth 100000 in
theorem sym_last (g N c a m b : Nat) (K : Int → Int) (ok : Int → Prop) (Kp : World → Prop) (pv : Value) (HC : CmpOK g K ok Kp pv) (P A T : List Int) (x : Int) (w : World) (hk : Kp w) (hg : Rw w g (P ++ (A ++ (x :: T)))) (hL : (P ++ (A ++ (x :: T))).length = N) (ha : P.length = a) (hm : m = a + A.length) (hb : b = m + 1) (hA : Srtd K A) (hn : A.length ≠ 1) (hlt : ∀ y ∈ A, y < x) (hx : ok x) (hok : ∀ y ∈ A, ok y) (hN : N < 2305843009213693952) :
    Calls Try.prog 19 #[.slice (some ⟨g, 0, none⟩) N c, .int .i64 a, .int .i64 m, .int .i64 b, .func (.func 14) #[] #[pv]] w (Merged g K P A [x] T w) := by
  have hmN : m < N := by rw [← hL, hm, ← ha]; simp only [List.length_append, List.length_cons]; omega
  obtain ⟨l0, hl0⟩ : ∃ l0, l0 = A.length := ⟨_, rfl⟩
  have e0 : (m : Int) - (a : Int) = (l0 : Int) := by omega
  have b0 : ((l0 : Int) == 1) = false := by simp; omega
  have b01 : (l0 == 1) = false := by simp; omega
  have e1 : (b : Int) - (m : Int) = 1 := by omega
  have HG := Aside0.mk hg
  have HM := Aside0.mk hm
  have HL := Aside0.mk hL
  have HA := Aside0.mk ha
  have ham : a ≤ m := by omega
  have HOK := Aside0.mk hok
  have HLT := Aside0.mk hlt
  have HK := Aside0.mk hk
  have HCC := Aside0.mk HC
  have HBS := Aside0.mk hA
  have hn1 : ¬ l0 = 1 := by omega
  clear hg hm hL ha hlt hok hk HC hA hn hb hl0
  go_enter Try.func19, Try.ntmps19
  go_wp2_with fail
  go_loopg [14, 15] (m - a) (fun gg v14 v15 wr => ∃ i j : Nat, v14 = .int .i64 i ∧ v15 = .int .i64 j ∧ a ≤ i ∧ i ≤ j ∧ j ≤ m ∧ j - i ≤ gg ∧ Aside0 (Found K A x (i - a) (j - a)) ∧ Aside0 (wr.heap = w.heap) ∧ Aside0 (Ap (fun k => k = g) w wr))
  case atStart => exact ⟨a, m, rfl, rfl, by omega, by omega, by omega, by omega, ⟨by rw [Nat.sub_self, show m - a = A.length by have := HM.out; omega]; exact Found.start⟩, ⟨rfl⟩, ⟨Ap.refl _ _⟩⟩
  case round =>
    obtain ⟨i, j, rfl, rfl, h1, h2, h3, h4, HF, HH, HP⟩ := hrel
    by_cases hij : i < j
    · have b1 : decide (i < j) = true := by simpa using hij
      obtain ⟨h, hh⟩ : ∃ h, h = (i + j) / 2 := ⟨_, rfl⟩
      have e2 : ((i : Int) + (j : Int)) / 2 = (h : Int) := by omega
      have hih : i ≤ h ∧ h < j := by omega
      have hhl : h - a < A.length := by have := HM.out; omega
      have HGr : Rw wr g (P ++ (A ++ (x :: T))) := HG.out.heap HH.out
      have cx := HGr.cell (i := m) (by rw [HL.out]; omega)
      have cy := HGr.cell (i := h) (by rw [HL.out]; omega)
      have ex : (P ++ (A ++ (x :: T))).getD m 0 = x := by
        have := HM.out; have := HA.out
        rw [getD_app (by omega), getD_app (by omega), show m - P.length - A.length = 0 by omega]; rfl
      have ey : (P ++ (A ++ (x :: T))).getD h 0 = A.getD (h - a) 0 := by
        have := HA.out
        rw [getD_app (by omega), show h - P.length = h - a by omega, ← getD_take (k := A.length) (i := h - a) hhl, List.take_left' rfl]
      rw [ex] at cx
      rw [ey] at cy
      obtain ⟨y, hy⟩ : ∃ y, y = A.getD (h - a) 0 := ⟨_, rfl⟩
      rw [← hy] at cy
      obtain ⟨v, hv⟩ : ∃ v, v = cv (K x) (K y) := ⟨_, rfl⟩
      have hyB : y ∈ A := by rw [hy]; exact getD_in hhl
      have HW := Aside0.mk (HCC.out.at (HCC.out.heap _ _ HK.out HH.out) hx (HOK.out y hyB) hv)
      have hyx := HLT.out y hyB
      have hhN : h < N := by omega
      by_cases hxy : K y < K x
      · have b3 : decide (v < 0) = true := by rw [hv]; simpa using cv_neg.2 hxy
        have HF2 := Aside0.mk (HF.out.more HBS.out hhl (by rw [← hy]; exact (later_ahead hyx).2 hxy))
        have hj2 : i ≤ h ∧ h ≤ m ∧ h - i ≤ gk - 1 := by omega
        clear ex ey HGr hyB hyx hxy hv hy hhl hh
        go_wp2_with fail
        go_quiet (first | (go_at_call 14; refine Calls.quiet_of (HW.out _ rfl)))
        go_wp2_with fail
        go_roundg (gk - 1)
        case measure => omega
        case rel => exact ⟨i, h, rfl, by first | rfl | (simp; done), h1, hj2.1, hj2.2.1, hj2.2.2, HF2, ⟨HH.out⟩, ⟨HP.out.drewN _⟩⟩
      · have b3 : decide (v < 0) = false := by rw [hv]; simp only [decide_eq_false_iff_not]; rw [cv_neg]; exact hxy
        have hf : Found K A x (h + 1 - a) (j - a) := by
          rw [show h + 1 - a = (h - a) + 1 by omega]
          exact HF.out.less HBS.out hhl (by rw [← hy]; exact (earlier_ahead hyx).2 hxy)
        have HF2 := Aside0.mk hf
        have hj2 : a ≤ h + 1 ∧ h + 1 ≤ j ∧ j - (h + 1) ≤ gk - 1 := by omega
        clear hf ex ey HGr hyB hyx hxy hv hy hhl hh
        go_wp2_with fail
        go_quiet (first | (go_at_call 14; refine Calls.quiet_of (HW.out _ rfl)))
        go_wp2_with fail
        go_roundg (gk - 1)
        case measure => omega
        case rel => exact ⟨h + 1, j, by first | rfl | (simp; done), rfl, hj2.1, hj2.2.1, h3, hj2.2.2, HF2, ⟨HH.out⟩, ⟨HP.out.drewN _⟩⟩
    · have b1 : decide (i < j) = false := by simpa using hij
      obtain rfl : i = j := by omega
      obtain ⟨D, hD⟩ : ∃ D, D = A.drop (i - a) := ⟨_, rfl⟩
      obtain ⟨P', hP'⟩ : ∃ P', P' = P ++ A.take (i - a) := ⟨_, rfl⟩
      have HDL : Aside0 (D.length = m - i) := ⟨by rw [hD, List.length_drop]; have := HM.out; omega⟩
      have HPL : Aside0 (P'.length = i) := ⟨by rw [hP', List.length_append, List.length_take]; have := HM.out; have := HA.out; omega⟩
      have HR0 : Aside0 (Roll P' D T x (m - i) g wr) := ⟨⟨by
        have := HG.out.heap HH.out
        rw [List.take_of_length_le (by rw [HDL.out]; omega), List.drop_of_length_le (by rw [HDL.out]; omega), List.nil_append, hP', hD, List.append_assoc, ← List.append_assoc (A.take _), List.take_append_drop]
        exact this, by rw [HDL.out]; omega⟩⟩
      have HFIN : Aside0 (∀ w1, Roll P' D T x 0 g w1 → ∃ C, Rw w1 g (P ++ (C ++ T)) ∧ C.Perm (A ++ [x]) ∧ Srtd K C) := ⟨fun w1 hr => by
        refine ⟨A.take (i - a) ++ x :: A.drop (i - a), ?_, ?_, srtd_place HBS.out HF.out.lo HF.out.hi⟩
        · have := hr.row
          rw [List.take_zero, List.drop_zero, List.nil_append, hD, hP'] at this
          simpa using this
        · refine List.perm_middle.trans ?_
          rw [List.take_append_drop]
          exact (List.perm_append_singleton x A).symm⟩
      clear hD hP'
      go_wp2_with fail
      go_loopg [17] (m - i) (fun gg v17 wr1 => ∃ k : Nat, v17 = .int .i64 k ∧ i ≤ k ∧ k ≤ m ∧ k ≤ i + gg ∧ Aside0 (Roll P' D T x (k - i) g wr1) ∧ Aside0 (Ap (fun k => k = g) w wr1))
      case atStart => exact ⟨m, rfl, h3, Nat.le_refl _, by omega, HR0, HP⟩
      case round =>
        obtain ⟨k, rfl, hk1, hk2, hk3, HRk, HPk⟩ := hrel
        by_cases hkq : i < k
        · have b4 : decide (i < k) = true := by simpa using hkq
          obtain ⟨q, hq⟩ : ∃ q, q = k - 1 := ⟨_, rfl⟩
          have e4 : (k : Int) - 1 = (q : Int) := by omega
          have hqk : q + 1 = k := by omega
          have hqi : i ≤ q := by omega
          obtain ⟨cx, fx⟩ := HRk.out.here (p := k) (by have := HPL.out; omega)
          have hRk : Roll P' D T x ((q - i) + 1) g wr := by have := HRk.out; rw [show k - i = (q - i) + 1 by omega] at this; exact this
          obtain ⟨cy, fy, hdn⟩ := hRk.down (p := q) (by have := HPL.out; omega)
          obtain ⟨y, hy⟩ : ∃ y, y = D.getD (q - i) 0 := ⟨_, rfl⟩
          rw [← hy] at cy hdn
          rw [hqk] at hdn
          have HUP := Aside0.mk hdn
          have hq3 : q ≤ m ∧ q ≤ i + (gk - 1) ∧ q < N := by omega
          clear hdn hy hq hqk hRk
          go_wp2_with fail
          go_region
          refine name_world (X := fun w1 => Exit.inBlock _ _ _ _ w1) fun w1 hw1 => ?_
          have hI1 : Aside0 (Roll P' D T x (q - i) g w1) := ⟨HUP.out w1 (by rw [hw1]; rfl)⟩
          have hPP : Aside0 (Ap (fun k => k = g) w w1) := ⟨by rw [hw1]; exact HPk.out.trans (Ap.drew (Ap.swap _ _))⟩
          clear hw1
          go_wp2_with fail
          go_roundg (gk - 1)
          case measure => omega
          case rel => exact ⟨q, by first | rfl | (simp; done), hqi, hq3.1, hq3.2.1, hI1, hPP⟩
        · have b4 : decide (i < k) = false := by simpa using hkq
          have hfin : Aside0 (∃ C, Rw wr g (P ++ (C ++ T)) ∧ C.Perm (A ++ [x]) ∧ Srtd K C) := ⟨HFIN.out _ (by have := HRk.out; rw [show k - i = 0 by omega] at this; exact this)⟩
          go_wp2_with fail
          (try simp only [Exit.inBlock, Exit.then]); refine bodyPost_ret (results_none rfl _ _ _) rfl ?_
          exact ⟨rfl, hfin.out, HPk.out⟩
#print axioms sym_last
end Go.Proofs.Ytfokcaillibajaa.Srt
