/- The sort's merging where one side is a single number. Conditions: the order's function answers as the values say. -/
import Derived.Test.YtfokcaillibajaaSortB
namespace Go.Proofs.Ytfokcaillibajaa.Srt
open Go.RowKit Go.Proofs.YtfokcaillibajaaW.PrintWords
set_option linter.unusedVariables false
set_option linter.unusedSimpArgs false

def Merged (g : Nat) (K : Int → Int) (P A B T : List Int) (w : World) (e : Ending) (w' : World) : Prop := e = .returned (.tuple #[]) ∧ (∃ C, Rw w' g (P ++ (C ++ T)) ∧ C.Perm (A ++ B) ∧ Srtd K C) ∧ Ap (fun k => k = g) w w'


/-! ### plain: a number's place in a run -/
theorem getD_take {B : List Int} {k i : Nat} (h : i < k) : (B.take k).getD i 0 = B.getD i 0 := by rw [List.getD_eq_getElem?_getD, List.getElem?_take, if_pos h, ← List.getD_eq_getElem?_getD]
theorem getD_drop {B : List Int} {k i : Nat} : (B.drop k).getD i 0 = B.getD (k + i) 0 := by rw [List.getD_eq_getElem?_getD, List.getElem?_drop, ← List.getD_eq_getElem?_getD]
theorem getD_in {B : List Int} {k : Nat} (h : k < B.length) : B.getD k 0 ∈ B := by simp [List.getD_eq_getElem?_getD, List.getElem?_eq_getElem h]
theorem cut_at {B : List Int} {k : Nat} (h : k < B.length) : B = B.take k ++ B.getD k 0 :: B.drop (k + 1) := by
  conv => lhs; rw [← List.take_append_drop k B, List.drop_eq_getElem_cons h]
  simp [List.getD_eq_getElem?_getD, List.getElem?_eq_getElem h]
theorem srtd_take {K : Int → Int} {B : List Int} {k : Nat} {x : Int} (hB : Srtd K B) (h : k < B.length) (ha : ahead K (B.getD k 0) x) : ∀ z ∈ B.take (k + 1), ahead K z x := by
  intro z hz
  have hB' := hB
  rw [cut_at h] at hB'
  have hp := List.pairwise_append.1 hB'
  rw [List.take_add_one, List.getElem?_eq_getElem h] at hz
  rcases List.mem_append.1 hz with hz | hz
  · exact ahead_trans (hp.2.2 z hz _ (by simp)) ha
  · simp at hz
    rw [hz]
    simpa [List.getD_eq_getElem?_getD, List.getElem?_eq_getElem h] using ha
theorem srtd_drop {K : Int → Int} {B : List Int} {k : Nat} {x : Int} (hB : Srtd K B) (h : k < B.length) (ha : ahead K x (B.getD k 0)) : ∀ z ∈ B.drop k, ahead K x z := by
  intro z hz
  have hB' := hB
  rw [cut_at h] at hB'
  have hp := List.pairwise_append.1 hB'
  have e : B.drop k = B.getD k 0 :: B.drop (k + 1) := by
    rw [List.drop_eq_getElem_cons h]
    simp [List.getD_eq_getElem?_getD, List.getElem?_eq_getElem h]
  rw [e] at hz
  rcases List.mem_cons.1 hz with rfl | hz
  · exact ha
  · exact ahead_trans ha ((List.pairwise_cons.1 hp.2.1).1 z hz)
theorem srtd_place {K : Int → Int} {B : List Int} {k : Nat} {x : Int} (hB : Srtd K B) (h1 : ∀ z ∈ B.take k, ahead K z x) (h2 : ∀ z ∈ B.drop k, ahead K x z) : Srtd K (B.take k ++ x :: B.drop k) := by
  refine srtd_insert (by rw [List.take_append_drop]; exact hB) (fun y hy => h1 y (List.mem_of_getLast? hy)) h2

theorem drop_at {D : List Int} {k : Nat} (hk : k < D.length) : D.drop k = D.getD k 0 :: D.drop (k + 1) := by
  rw [List.drop_eq_getElem_cons hk, List.getD_eq_getElem?_getD, List.getElem?_eq_getElem hk, Option.getD_some]
theorem take_at {D : List Int} {k : Nat} (hk : k < D.length) : D.take (k + 1) = D.take k ++ [D.getD k 0] := by
  rw [List.take_add_one, List.getD_eq_getElem?_getD, List.getElem?_eq_getElem hk, Option.getD_some, Option.toList_some]

/-! ### a number that is rolled along a stretch -/
structure Roll (P D R : List Int) (x : Int) (k g : Nat) (w : World) : Prop where
  row : Rw w g (P ++ (D.take k ++ (x :: (D.drop k ++ R))))
  le : k ≤ D.length
theorem Roll.here {P D R : List Int} {x : Int} {k g p : Nat} {w : World} (h : Roll P D R x k g w) (hp : p = P.length + k) : w.cell? ⟨g, p, none⟩ = some (.int .i64 x) ∧ w.frozen? ⟨g, p, none⟩ = false := by
  refine ⟨?_, h.row.frozen _⟩
  have hl := h.le
  rw [h.row.cell (i := p) (by simp only [List.length_append, List.length_cons, List.length_take]; omega), getD_app (by omega), getD_app (by rw [List.length_take]; omega), List.length_take, show p - P.length - min k D.length = 0 by omega]
  rfl
theorem Roll.up {P D R : List Int} {x : Int} {k g p : Nat} {w : World} (h : Roll P D R x k g w) (hp : p = P.length + k) (hk : k < D.length) : w.cell? ⟨g, p + 1, none⟩ = some (.int .i64 (D.getD k 0)) ∧ w.frozen? ⟨g, p + 1, none⟩ = false ∧
    (∀ w1, w1.heap = ((w.setCell ⟨g, p, none⟩ (.int .i64 (D.getD k 0))).setCell ⟨g, p + 1, none⟩ (.int .i64 x)).heap → Roll P D R x (k + 1) g w1) := by
  have hr := h.row
  have e : P ++ (D.take k ++ (x :: (D.drop k ++ R))) = (P ++ D.take k) ++ x :: D.getD k 0 :: (D.drop (k + 1) ++ R) := by
    rw [drop_at hk, List.cons_append, List.append_assoc]
  rw [e] at hr
  have hl : (P ++ D.take k).length = p := by rw [List.length_append, List.length_take]; omega
  have c1 : ((P ++ D.take k) ++ x :: D.getD k 0 :: (D.drop (k + 1) ++ R)).getD (p + 1) 0 = D.getD k 0 := by
    rw [getD_app (by omega), hl, show p + 1 - p = 1 by omega]; rfl
  have c0 : ((P ++ D.take k) ++ x :: D.getD k 0 :: (D.drop (k + 1) ++ R)).getD p 0 = x := by
    rw [getD_app (by omega), hl, Nat.sub_self]; rfl
  refine ⟨?_, hr.frozen _, fun w1 hw => ⟨?_, hk⟩⟩
  · rw [hr.cell (i := p + 1) (by simp only [List.length_append, List.length_cons, List.length_take]; omega), c1]
  · have hs := hr.swap p (p + 1)
    rw [c0, c1, (swap_pair (P := P ++ D.take k) (i := p) (j := p + 1) hl.symm (by omega)).1] at hs
    have := hs.heap hw
    rw [take_at hk, List.append_assoc, List.singleton_append, ← List.append_assoc]
    exact this
theorem Roll.down {P D R : List Int} {x : Int} {k g p : Nat} {w : World} (h : Roll P D R x (k + 1) g w) (hp : p = P.length + k) : w.cell? ⟨g, p, none⟩ = some (.int .i64 (D.getD k 0)) ∧ w.frozen? ⟨g, p, none⟩ = false ∧
    (∀ w1, w1.heap = ((w.setCell ⟨g, p + 1, none⟩ (.int .i64 (D.getD k 0))).setCell ⟨g, p, none⟩ (.int .i64 x)).heap → Roll P D R x k g w1) := by
  have hr := h.row
  have hk : k < D.length := h.le
  have e : P ++ (D.take (k + 1) ++ (x :: (D.drop (k + 1) ++ R))) = (P ++ D.take k) ++ D.getD k 0 :: x :: (D.drop (k + 1) ++ R) := by
    rw [take_at hk, List.append_assoc, List.singleton_append, ← List.append_assoc]
  rw [e] at hr
  have hl : (P ++ D.take k).length = p := by rw [List.length_append, List.length_take]; omega
  have c1 : ((P ++ D.take k) ++ D.getD k 0 :: x :: (D.drop (k + 1) ++ R)).getD (p + 1) 0 = x := by
    rw [getD_app (by omega), hl, show p + 1 - p = 1 by omega]; rfl
  have c0 : ((P ++ D.take k) ++ D.getD k 0 :: x :: (D.drop (k + 1) ++ R)).getD p 0 = D.getD k 0 := by
    rw [getD_app (by omega), hl, Nat.sub_self]; rfl
  refine ⟨?_, hr.frozen _, fun w1 hw => ⟨?_, Nat.le_of_lt hk⟩⟩
  · rw [hr.cell (i := p) (by simp only [List.length_append, List.length_cons, List.length_take]; omega), c0]
  · have hs := hr.swap (p + 1) p
    rw [c0, c1, (swap_pair (P := P ++ D.take k) (i := p) (j := p + 1) hl.symm (by omega)).2] at hs
    have := hs.heap hw
    rw [drop_at hk, List.cons_append, ← List.append_assoc]
    exact this
/-- What is found in a run: all ahead of x below i, all behind it from j on. -/
structure Found (K : Int → Int) (B : List Int) (x : Int) (i j : Nat) : Prop where
  lo : ∀ z ∈ B.take i, ahead K z x
  hi : ∀ z ∈ B.drop j, ahead K x z
theorem Found.start {K : Int → Int} {B : List Int} {x : Int} : Found K B x 0 B.length := ⟨fun z hz => by simp at hz, fun z hz => by simp at hz⟩
theorem Found.less {K : Int → Int} {B : List Int} {x : Int} {i j h : Nat} (f : Found K B x i j) (hB : Srtd K B) (hh : h < B.length) (ha : ahead K (B.getD h 0) x) : Found K B x (h + 1) j := ⟨srtd_take hB hh ha, f.hi⟩
theorem Found.more {K : Int → Int} {B : List Int} {x : Int} {i j h : Nat} (f : Found K B x i j) (hB : Srtd K B) (hh : h < B.length) (ha : ahead K x (B.getD h 0)) : Found K B x i h := ⟨f.lo, srtd_drop hB hh ha⟩

set_option maxHeartbeats 8000000 in
set_option maxRecDepth 100000 in
theorem sym_one (g N c a m b : Nat) (K : Int → Int) (ok : Int → Prop) (Kp : World → Prop) (pv : Value) (HC : CmpOK g K ok Kp pv) (P B T : List Int) (x : Int) (w : World) (hk : Kp w) (hg : Rw w g (P ++ (x :: B ++ T))) (hL : (P ++ (x :: B ++ T)).length = N) (ha : P.length = a) (hm : m = a + 1) (hb : b = m + B.length) (hB : Srtd K B) (hlt : ∀ y ∈ B, x < y) (hx : ok x) (hok : ∀ y ∈ B, ok y) (hN : N < 2305843009213693952) :
    Calls Try.prog 19 #[.slice (some ⟨g, 0, none⟩) N c, .int .i64 a, .int .i64 m, .int .i64 b, .func (.func 14) #[] #[pv]] w (Merged g K P [x] B T w) := by
  have hbN : b ≤ N := by rw [← hL, hb, hm, ← ha]; simp only [List.length_append, List.length_cons]; omega
  have e1 : (m : Int) - (a : Int) = 1 := by omega
  have HG := Aside0.mk hg
  have HM := Aside0.mk hm
  have HBB := Aside0.mk hb
  have HL := Aside0.mk hL
  have HA := Aside0.mk ha
  have hmb : m ≤ b := by omega
  have HOK := Aside0.mk hok
  have HLT := Aside0.mk hlt
  have HK := Aside0.mk hk
  have HCC := Aside0.mk HC
  have HBS := Aside0.mk hB
  clear hg hm hb hL ha hlt hok hk HC hB
  go_enter Try.func19, Try.ntmps19
  go_wp2_with fail
  go_loopg [10, 11] (b - m) (fun gg v10 v11 wr => ∃ i j : Nat, v10 = .int .i64 i ∧ v11 = .int .i64 j ∧ m ≤ i ∧ i ≤ j ∧ j ≤ b ∧ j - i ≤ gg ∧ Aside0 (Found K B x (i - m) (j - m)) ∧ Aside0 (wr.heap = w.heap) ∧ Aside0 (Ap (fun k => k = g) w wr))
  case atStart => exact ⟨m, b, rfl, rfl, by omega, by omega, by omega, by omega, ⟨by rw [Nat.sub_self, show b - m = B.length by have := HBB.out; omega]; exact Found.start⟩, ⟨rfl⟩, ⟨Ap.refl _ _⟩⟩
  case round =>
    obtain ⟨i, j, rfl, rfl, h1, h2, h3, h4, HF, HH, HP⟩ := hrel
    by_cases hij : i < j
    · have b1 : decide (i < j) = true := by simpa using hij
      obtain ⟨h, hh⟩ : ∃ h, h = (i + j) / 2 := ⟨_, rfl⟩
      have e2 : ((i : Int) + (j : Int)) / 2 = (h : Int) := by omega
      have hih : i ≤ h ∧ h < j := by omega
      have hhl : h - m < B.length := by have := HBB.out; omega
      have HGr : Rw wr g (P ++ (x :: B ++ T)) := HG.out.heap HH.out
      have cx := HGr.cell (i := a) (by rw [HL.out]; omega)
      have cy := HGr.cell (i := h) (by rw [HL.out]; omega)
      have ex : (P ++ (x :: B ++ T)).getD a 0 = x := by rw [getD_app (by have := HA.out; omega), HA.out, Nat.sub_self]; rfl
      have ey : (P ++ (x :: B ++ T)).getD h 0 = B.getD (h - m) 0 := by
        have := HA.out; have := HM.out
        rw [getD_app (by omega), show h - P.length = (h - m) + 1 by omega, List.cons_append, List.getD_cons_succ, ← getD_take (k := B.length) (i := h - m) hhl, List.take_left' rfl]
      rw [ex] at cx
      rw [ey] at cy
      obtain ⟨y, hy⟩ : ∃ y, y = B.getD (h - m) 0 := ⟨_, rfl⟩
      rw [← hy] at cy
      obtain ⟨v, hv⟩ : ∃ v, v = cv (K y) (K x) := ⟨_, rfl⟩
      have hyB : y ∈ B := by rw [hy]; exact getD_in hhl
      have HW := Aside0.mk (HCC.out.at (HCC.out.heap _ _ HK.out HH.out) (HOK.out y hyB) hx hv)
      have hyx := HLT.out y hyB
      have hB1 := Aside0.mk (HBS.out)
      by_cases hxy : K x < K y
      · have b3 : decide (v < 0) = true := by rw [hv]; simpa using cv_neg.2 hxy
        have hf : Found K B x (h + 1 - m) (j - m) := by
          rw [show h + 1 - m = (h - m) + 1 by omega]
          exact HF.out.less HBS.out hhl (by rw [← hy]; exact (later_ahead hyx).2 hxy)
        have HF2 := Aside0.mk hf
        have hj2 : m ≤ h + 1 ∧ h + 1 ≤ j ∧ j - (h + 1) ≤ gk - 1 := by omega
        clear hf ex ey HGr hyB hyx hxy hv hy hhl hh
        go_wp2_with fail
        go_quiet (first | (go_at_call 14; refine Calls.quiet_of (HW.out _ rfl)))
        go_wp2_with fail
        go_roundg (gk - 1)
        case measure => omega
        case rel => exact ⟨h + 1, j, by first | rfl | (simp; done), rfl, hj2.1, hj2.2.1, h3, hj2.2.2, HF2, ⟨HH.out⟩, ⟨HP.out.drewN _⟩⟩
      · have b3 : decide (v < 0) = false := by rw [hv]; simp only [decide_eq_false_iff_not]; rw [cv_neg]; exact hxy
        have HF2 := Aside0.mk (HF.out.more HBS.out hhl (by rw [← hy]; exact (earlier_ahead hyx).2 hxy))
        have hj2 : i ≤ h ∧ h ≤ b ∧ h - i ≤ gk - 1 := by omega
        clear ex ey HGr hyB hyx hxy hv hy hhl hh
        go_wp2_with fail
        go_quiet (first | (go_at_call 14; refine Calls.quiet_of (HW.out _ rfl)))
        go_wp2_with fail
        go_roundg (gk - 1)
        case measure => omega
        case rel => exact ⟨i, h, rfl, by first | rfl | (simp; done), h1, hj2.1, hj2.2.1, hj2.2.2, HF2, ⟨HH.out⟩, ⟨HP.out.drewN _⟩⟩
    · have b1 : decide (i < j) = false := by simpa using hij
      obtain rfl : i = j := by omega
      obtain ⟨D, hD⟩ : ∃ D, D = B.take (i - m) := ⟨_, rfl⟩
      have HDL : Aside0 (D.length = i - m) := ⟨by rw [hD, List.length_take]; have := HBB.out; omega⟩
      obtain ⟨R, hR⟩ : ∃ R, R = B.drop (i - m) ++ T := ⟨_, rfl⟩
      have HR0 : Aside0 (Roll P D R x 0 g wr) := ⟨⟨by
        have := HG.out.heap HH.out
        rw [List.take_zero, List.nil_append, List.drop_zero, hD, hR, ← List.append_assoc, List.take_append_drop]
        exact this, Nat.zero_le _⟩⟩
      have HFIN : Aside0 (∀ w1, Roll P D R x (i - m) g w1 → ∃ C, Rw w1 g (P ++ (C ++ T)) ∧ C.Perm ([x] ++ B) ∧ Srtd K C) := ⟨fun w1 hr => by
        refine ⟨B.take (i - m) ++ x :: B.drop (i - m), ?_, ?_, srtd_place HBS.out HF.out.lo HF.out.hi⟩
        · have := hr.row
          rw [List.take_of_length_le (by rw [HDL.out]; omega), List.drop_of_length_le (by rw [HDL.out]; omega), hD, hR] at this
          simpa using this
        · refine List.perm_middle.trans ?_
          rw [List.take_append_drop]
          exact List.Perm.refl _⟩
      have HII : Aside0 (m = a + 1) := HM
      have e3 : (i : Int) - 1 = ((a + (i - m) : Nat) : Int) := by have := HM.out; omega
      obtain ⟨q, hq⟩ : ∃ q, q = a + (i - m) := ⟨_, rfl⟩
      rw [← hq] at e3
      have haq : a ≤ q := by omega
      have hqN : q < N := by have := HM.out; omega
      have HQ := Aside0.mk hq
      clear hD hR hq
      go_wp2_with fail
      go_loopg [13] (q - a) (fun gg v13 wr1 => ∃ k : Nat, v13 = .int .i64 k ∧ a ≤ k ∧ k ≤ q ∧ q ≤ k + gg ∧ Aside0 (Roll P D R x (k - a) g wr1) ∧ Aside0 (Ap (fun k => k = g) w wr1))
      case atStart => exact ⟨a, rfl, Nat.le_refl _, haq, by omega, ⟨by rw [Nat.sub_self]; exact HR0.out⟩, HP⟩
      case round =>
        obtain ⟨k, rfl, hk1, hk2, hk3, HRk, HPk⟩ := hrel
        by_cases hkq : k < q
        · have b4 : decide (k < q) = true := by simpa using hkq
          obtain ⟨cx, fx⟩ := HRk.out.here (p := k) (by have := HA.out; omega)
          obtain ⟨cy, fy, hup⟩ := HRk.out.up (p := k) (by have := HA.out; omega) (by have := HDL.out; have := HQ.out; omega)
          obtain ⟨y, hy⟩ : ∃ y, y = D.getD (k - a) 0 := ⟨_, rfl⟩
          rw [← hy] at cy hup
          have HUP := Aside0.mk hup
          clear hup hy
          go_wp2_with fail
          go_region
          refine name_world (X := fun w1 => Exit.inBlock _ _ _ _ w1) fun w1 hw1 => ?_
          have hI1 : Aside0 (Roll P D R x (k + 1 - a) g w1) := ⟨by rw [show k + 1 - a = k - a + 1 by omega]; exact HUP.out w1 (by rw [hw1]; rfl)⟩
          have hPP : Aside0 (Ap (fun k => k = g) w w1) := ⟨by rw [hw1]; exact HPk.out.trans (Ap.drew (Ap.swap _ _))⟩
          clear hw1
          go_wp2_with fail
          go_roundg (gk - 1)
          case measure => omega
          case rel => exact ⟨k + 1, by first | rfl | (simp; done), by omega, by omega, by omega, hI1, hPP⟩
        · have b4 : decide (k < q) = false := by simpa using hkq
          have hfin : Aside0 (∃ C, Rw wr g (P ++ (C ++ T)) ∧ C.Perm ([x] ++ B) ∧ Srtd K C) := ⟨HFIN.out _ (by have := HRk.out; rw [show k - a = i - m by have := HQ.out; omega] at this; exact this)⟩
          go_wp2_with fail
          (try simp only [Exit.inBlock, Exit.then]); refine bodyPost_ret (results_none rfl _ _ _) rfl ?_
          exact ⟨rfl, hfin.out, HPk.out⟩
#print axioms sym_one
end Go.Proofs.Ytfokcaillibajaa.Srt
