/- The sort's merging of two runs in place, the general case and the whole. Conditions: the order's function answers as the values say. -/
import Derived.Test.YtfokcaillibajaaSortD
namespace Go.Proofs.Ytfokcaillibajaa.Srt
open Go.RowKit Go.Proofs.YtfokcaillibajaaW.PrintWords
set_option linter.unusedVariables false
set_option linter.unusedSimpArgs false

structure SymPre (g N a m b : Nat) (K : Int → Int) (ok : Int → Prop) (Kp : World → Prop) (P A B T : List Int) (w : World) : Prop where
  hk : Kp w
  hg : Rw w g (P ++ (A ++ (B ++ T)))
  hL : (P ++ (A ++ (B ++ T))).length = N
  ha : P.length = a
  hm : m = a + A.length
  hb : b = m + B.length
  hA : Srtd K A
  hB : Srtd K B
  hlt : ∀ x ∈ A, ∀ y ∈ B, x < y
  okA : ∀ x ∈ A, ok x
  okB : ∀ x ∈ B, ok x
  nA : 0 < A.length
  nB : 0 < B.length
def SymAt (g N c a m b : Nat) (K : Int → Int) (pv : Value) (P A B T : List Int) (w : World) : Prop :=
  Calls Try.prog 19 #[.slice (some ⟨g, 0, none⟩) N c, .int .i64 a, .int .i64 m, .int .i64 b, .func (.func 14) #[] #[pv]] w (Merged g K P A B T w)

/-! ### plain: the cut through both runs -/
structure CutLo (K : Int → Int) (A B : List Int) (a m b n s : Nat) : Prop where
  h : a < s → n < b + s → ahead K (A.getD (s - 1 - a) 0) (B.getD (n - s - m) 0)
structure CutHi (K : Int → Int) (A B : List Int) (a m n r : Nat) : Prop where
  h : r < m → m + r < n → ahead K (B.getD (n - r - 1 - m) 0) (A.getD (r - a) 0)
theorem last_take {A : List Int} {k : Nat} {x : Int} (h : (A.take k).getLast? = some x) (hk : k ≤ A.length) : 0 < k ∧ x = A.getD (k - 1) 0 := by
  rw [List.getLast?_eq_getElem?, List.length_take, Nat.min_eq_left hk] at h
  rcases Nat.eq_zero_or_pos k with rfl | hp
  · simp at h
  · rw [List.getElem?_take, if_pos (by omega)] at h
    exact ⟨hp, by rw [List.getD_eq_getElem?_getD, h]; rfl⟩
theorem head_drop {B : List Int} {k : Nat} {y : Int} (h : (B.drop k).head? = some y) : k < B.length ∧ y = B.getD k 0 := by
  rw [List.head?_eq_getElem?, List.getElem?_drop, Nat.add_zero] at h
  exact ⟨(List.getElem?_eq_some_iff.1 h).1, by rw [List.getD_eq_getElem?_getD, h]; rfl⟩
theorem cut_done {K : Int → Int} {A B : List Int} {a m b n s : Nat} (hA : Srtd K A) (hB : Srtd K B) (hm : m = a + A.length) (hb : b = m + B.length) (h1 : a ≤ s) (h2 : s ≤ m) (h3 : m + s ≤ n) (h4 : n ≤ b + s) (lo : CutLo K A B a m b n s) (hi : CutHi K A B a m n s) :
    (∀ x ∈ A.take (s - a), ∀ y ∈ B.drop (n - s - m), ahead K x y) ∧ (∀ x ∈ B.take (n - s - m), ∀ y ∈ A.drop (s - a), ahead K x y) := by
  constructor
  · refine all_ahead (hA.sublist (List.take_sublist _ _)) (hB.sublist (List.drop_sublist _ _)) fun x y hx hy => ?_
    obtain ⟨g1, rfl⟩ := last_take hx (by omega)
    obtain ⟨g2, rfl⟩ := head_drop hy
    have := lo.h (by omega) (by omega)
    rwa [show s - 1 - a = s - a - 1 by omega] at this
  · refine all_ahead (hB.sublist (List.take_sublist _ _)) (hA.sublist (List.drop_sublist _ _)) fun x y hx hy => ?_
    obtain ⟨g1, rfl⟩ := last_take hx (by omega)
    obtain ⟨g2, rfl⟩ := head_drop hy
    have := hi.h (by omega) (by omega)
    rwa [show n - s - 1 - m = n - s - m - 1 by omega] at this
theorem srtd_nil_or {K : Int → Int} {X Y : List Int} (hX : Srtd K X) (hY : Srtd K Y) (h : X = [] ∨ Y = []) : Srtd K (X ++ Y) := by
  rcases h with rfl | rfl
  · exact hY
  · rw [List.append_nil]; exact hX
theorem swap_nil {P X Y T : List Int} (h : X = [] ∨ Y = []) : P ++ (X ++ (Y ++ T)) = P ++ (Y ++ (X ++ T)) := by
  rcases h with rfl | rfl <;> simp

def St0 (g : Nat) (Kp : World → Prop) (P A1 A2 B1 B2 T : List Int) (w0 w : World) : Prop := Rw w g (P ++ (A1 ++ (A2 ++ (B1 ++ (B2 ++ T))))) ∧ Kp w ∧ Ap (fun k => k = g) w0 w
def St1 (g : Nat) (Kp : World → Prop) (P A1 A2 B1 B2 T : List Int) (w0 w : World) : Prop := Rw w g (P ++ (A1 ++ (B1 ++ (A2 ++ (B2 ++ T))))) ∧ Kp w ∧ Ap (fun k => k = g) w0 w
def St2 (g : Nat) (K : Int → Int) (Kp : World → Prop) (P A1 A2 B1 B2 T : List Int) (w0 w : World) : Prop := (∃ C, C.Perm (A1 ++ B1) ∧ Srtd K C ∧ Rw w g (P ++ (C ++ (A2 ++ (B2 ++ T))))) ∧ Kp w ∧ Ap (fun k => k = g) w0 w
def St3 (g : Nat) (K : Int → Int) (P A B T : List Int) (w0 w : World) : Prop := (∃ C, Rw w g (P ++ (C ++ T)) ∧ C.Perm (A ++ B) ∧ Srtd K C) ∧ Ap (fun k => k = g) w0 w

set_option maxHeartbeats 16000000 in
set_option maxRecDepth 100000 in
theorem sym_gen (g N c a m b : Nat) (K : Int → Int) (ok : Int → Prop) (Kp : World → Prop) (pv : Value) (HC : CmpOK g K ok Kp pv) (P A B T : List Int) (w : World) (hN : N < 2305843009213693952) (hp : SymPre g N a m b K ok Kp P A B T w) (n1 : A.length ≠ 1) (n2 : B.length ≠ 1)
    (IH : ∀ a' m' b' P' A' B' T' w', A'.length + B'.length < A.length + B.length → SymPre g N a' m' b' K ok Kp P' A' B' T' w' → SymAt g N c a' m' b' K pv P' A' B' T' w') : SymAt g N c a m b K pv P A B T w := by
  unfold SymAt
  have HQ := Aside0.mk hp
  have HIH := Aside0.mk IH
  have HCC := Aside0.mk HC
  obtain ⟨l1, hl1⟩ : ∃ l1, l1 = A.length := ⟨_, rfl⟩
  obtain ⟨l2, hl2⟩ : ∃ l2, l2 = B.length := ⟨_, rfl⟩
  have k1 := hp.hm
  have k2 := hp.hb
  have k3 := hp.nA
  have k4 := hp.nB
  have e0 : (m : Int) - (a : Int) = (l1 : Int) := by omega
  have b0 : ((l1 : Int) == 1) = false := by simp; omega
  have b01 : (l1 == 1) = false := by simp; omega
  have b02 : ¬ l1 = 1 := by omega
  have e1 : (b : Int) - (m : Int) = (l2 : Int) := by omega
  have b1 : ((l2 : Int) == 1) = false := by simp; omega
  have b11 : (l2 == 1) = false := by simp; omega
  have b12 : ¬ l2 = 1 := by omega
  have ham : a + 2 ≤ m := by omega
  have hmb : m + 2 ≤ b := by omega
  have hbN : b ≤ N := by rw [← hp.hL]; simp only [List.length_append]; have := hp.ha; omega
  obtain ⟨q, hq⟩ : ∃ q, q = (a + b) / 2 := ⟨_, rfl⟩
  have e2 : ((a : Int) + (b : Int)) / 2 = (q : Int) := by omega
  obtain ⟨n, hn⟩ : ∃ n, n = q + m := ⟨_, rfl⟩
  have e3 : (q : Int) + (m : Int) = (n : Int) := by omega
  have hqa : a < q ∧ q < b ∧ 2 * q ≤ a + b ∧ a + b ≤ 2 * q + 1 := by omega
  obtain ⟨p, hpn⟩ : ∃ p, p = n - 1 := ⟨_, rfl⟩
  have e4 : (n : Int) - 1 = (p : Int) := by omega
  have hnb : n < 2 * N ∧ p + 1 = n := by omega
  have HNQ := Aside0.mk hn
  have HPN := Aside0.mk hpn
  have HL12 : Aside0 (l1 = A.length ∧ l2 = B.length) := ⟨hl1, hl2⟩
  clear hp IH HC k1 k2 k3 k4 hl1 hl2 hq n1 n2 hn hpn
  go_enter Try.func19, Try.ntmps19
  go_upto_if 140 with fail
  go_cut [20, 21] from 141 to 146 (fun s20 s21 wx => ∃ s r : Nat, s20 = .int .i64 s ∧ s21 = .int .i64 r ∧ a ≤ s ∧ s ≤ r ∧ r ≤ m ∧ m + r ≤ n ∧ n ≤ b + s ∧ Aside0 (CutLo K A B a m b n s) ∧ Aside0 (CutHi K A B a m n r) ∧ wx = w)
  case first =>
    by_cases hmq : q < m
    · have d1 : decide (q < m) = true := by simpa using hmq
      have e5 : (n : Int) - (b : Int) = ((n - b : Nat) : Int) := by have := HNQ.out; omega
      obtain ⟨s0, hs0⟩ : ∃ s0, s0 = n - b := ⟨_, rfl⟩
      rw [← hs0] at e5
      have hf : a ≤ s0 ∧ s0 ≤ q ∧ q ≤ m ∧ m + q ≤ n ∧ n ≤ b + s0 ∧ ¬ n < b + s0 ∧ ¬ m + q < n := by have := HNQ.out; omega
      clear hs0
      go_wp2_with fail
      go_meet
      exact ⟨s0, q, rfl, rfl, hf.1, hf.2.1, hf.2.2.1, hf.2.2.2.1, hf.2.2.2.2.1, ⟨⟨fun _ h => absurd h hf.2.2.2.2.2.1⟩⟩, ⟨⟨fun _ h => absurd h hf.2.2.2.2.2.2⟩⟩, rfl⟩
    · have d1 : decide (q < m) = false := by simpa using hmq
      have hf : m + m ≤ n ∧ n ≤ b + a := by have := HNQ.out; omega
      go_wp2_with fail
      go_meet
      exact ⟨a, m, rfl, rfl, Nat.le_refl _, by omega, Nat.le_refl _, hf.1, hf.2, ⟨⟨fun h => absurd h (Nat.lt_irrefl _)⟩⟩, ⟨⟨fun h => absurd h (Nat.lt_irrefl _)⟩⟩, rfl⟩
  case rest =>
    obtain ⟨s0, r0, rfl, rfl, hs1, hs2, hs3, hs4, hs5, HLO, HHI, rfl⟩ := hcut
    go_wp2_with fail
    go_loopg [20, 21] (r0 - s0) (fun gg v20 v21 wr => ∃ i j : Nat, v20 = .int .i64 i ∧ v21 = .int .i64 j ∧ a ≤ i ∧ i ≤ j ∧ j ≤ m ∧ m + j ≤ n ∧ n ≤ b + i ∧ j - i ≤ gg ∧ Aside0 (CutLo K A B a m b n i) ∧ Aside0 (CutHi K A B a m n j) ∧ Aside0 (wr.heap = wc.heap) ∧ Aside0 (Ap (fun k => k = g) wc wr))
    case atStart => exact ⟨s0, r0, rfl, rfl, hs1, hs2, hs3, hs4, hs5, by omega, HLO, HHI, ⟨rfl⟩, ⟨Ap.refl _ _⟩⟩
    case round =>
      obtain ⟨i, j, rfl, rfl, h1, h2, h3, h4, h5, h6, HLi, HHj, HH, HP⟩ := hrel
      by_cases hij : i < j
      · have d1 : decide (i < j) = true := by simpa using hij
        obtain ⟨h, hh⟩ : ∃ h, h = (i + j) / 2 := ⟨_, rfl⟩
        have f2 : ((i : Int) + (j : Int)) / 2 = (h : Int) := by omega
        have hih : i ≤ h ∧ h < j := by omega
        obtain ⟨d, hd⟩ : ∃ d, d = p - h := ⟨_, rfl⟩
        have f3 : (p : Int) - (h : Int) = (d : Int) := by have := HPN.out; omega
        have hdN : d < N ∧ h < N := by have := HPN.out; omega
        have hdm : m ≤ d ∧ d < b := by have := HPN.out; omega
        have hhl : h - a < A.length := by have := HQ.out.hm; omega
        have hdl : d - m < B.length := by have := HQ.out.hb; omega
        have HGr : Rw wr g (P ++ (A ++ (B ++ T))) := HQ.out.hg.heap HH.out
        have hLr := HQ.out.hL
        have hPr := HQ.out.ha
        have cx := HGr.cell (i := d) (by rw [hLr]; omega)
        have cy := HGr.cell (i := h) (by rw [hLr]; omega)
        have ex : (P ++ (A ++ (B ++ T))).getD d 0 = B.getD (d - m) 0 := by
          have := HQ.out.hm
          rw [getD_app (by omega), getD_app (by omega), show d - P.length - A.length = d - m by omega, ← getD_take (k := B.length) (i := d - m) hdl, List.take_left' rfl]
        have ey : (P ++ (A ++ (B ++ T))).getD h 0 = A.getD (h - a) 0 := by
          rw [getD_app (by omega), show h - P.length = h - a by omega, ← getD_take (k := A.length) (i := h - a) hhl, List.take_left' rfl]
        rw [ex] at cx
        rw [ey] at cy
        obtain ⟨x, hx⟩ : ∃ x, x = B.getD (d - m) 0 := ⟨_, rfl⟩
        obtain ⟨y, hy⟩ : ∃ y, y = A.getD (h - a) 0 := ⟨_, rfl⟩
        rw [← hx] at cx
        rw [← hy] at cy
        have hxB : x ∈ B := by rw [hx]; exact getD_in hdl
        have hyA : y ∈ A := by rw [hy]; exact getD_in hhl
        obtain ⟨v, hv⟩ : ∃ v, v = cv (K x) (K y) := ⟨_, rfl⟩
        have HW := Aside0.mk (HCC.out.at (HCC.out.heap _ _ HQ.out.hk HH.out) (HQ.out.okB x hxB) (HQ.out.okA y hyA) hv)
        have hyx := HQ.out.hlt y hyA x hxB
        by_cases hxy : K y < K x
        · have b3 : decide (v < 0) = true := by rw [hv]; simpa using cv_neg.2 hxy
          have HF2 : Aside0 (CutHi K A B a m n h) := ⟨⟨fun _ _ => by
            rw [← hy, show n - h - 1 - m = d - m by have := HPN.out; omega, ← hx]
            exact (later_ahead hyx).2 hxy⟩⟩
          have hj2 : i ≤ h ∧ h ≤ m ∧ m + h ≤ n ∧ h - i ≤ gk - 1 := by omega
          clear ex ey HGr hxB hyA hyx hxy hv hx hy hhl hdl hh hd hLr hPr
          go_wp2_with fail
          go_quiet (first | (go_at_call 14; refine Calls.quiet_of (HW.out _ rfl)))
          go_wp2_with fail
          go_roundg (gk - 1)
          case measure => omega
          case rel => exact ⟨i, h, rfl, by first | rfl | (simp; done), h1, hj2.1, hj2.2.1, hj2.2.2.1, h5, hj2.2.2.2, HLi, HF2, ⟨HH.out⟩, ⟨HP.out.drewN _⟩⟩
        · have b3 : decide (v < 0) = false := by rw [hv]; simp only [decide_eq_false_iff_not]; rw [cv_neg]; exact hxy
          have HF2 : Aside0 (CutLo K A B a m b n (h + 1)) := ⟨⟨fun _ _ => by
            rw [show h + 1 - 1 - a = h - a by omega, ← hy, show n - (h + 1) - m = d - m by have := HPN.out; omega, ← hx]
            exact (earlier_ahead hyx).2 hxy⟩⟩
          have hj2 : a ≤ h + 1 ∧ h + 1 ≤ j ∧ n ≤ b + (h + 1) ∧ j - (h + 1) ≤ gk - 1 := by omega
          clear ex ey HGr hxB hyA hyx hxy hv hx hy hhl hdl hh hd hLr hPr
          go_wp2_with fail
          go_quiet (first | (go_at_call 14; refine Calls.quiet_of (HW.out _ rfl)))
          go_wp2_with fail
          go_roundg (gk - 1)
          case measure => omega
          case rel => exact ⟨h + 1, j, by first | rfl | (simp; done), rfl, hj2.1, hj2.2.1, h3, h4, hj2.2.2.1, hj2.2.2.2, HF2, HHj, ⟨HH.out⟩, ⟨HP.out.drewN _⟩⟩
      · have d1 : decide (i < j) = false := by simpa using hij
        obtain rfl : i = j := by omega
        obtain ⟨en, hen⟩ : ∃ en, en = n - i := ⟨_, rfl⟩
        have f4 : (n : Int) - (i : Int) = (en : Int) := by omega
        have hen2 : m ≤ en ∧ en ≤ b ∧ i + en = q + m := by have := HNQ.out; omega
        obtain ⟨X1, X2⟩ := cut_done HQ.out.hA HQ.out.hB HQ.out.hm HQ.out.hb h1 h3 h4 h5 HLi.out HHj.out
        rw [← hen] at X1 X2
        obtain ⟨A1, hA1⟩ : ∃ A1, A1 = A.take (i - a) := ⟨_, rfl⟩
        obtain ⟨A2, hA2⟩ : ∃ A2, A2 = A.drop (i - a) := ⟨_, rfl⟩
        obtain ⟨B1, hB1⟩ : ∃ B1, B1 = B.take (en - m) := ⟨_, rfl⟩
        obtain ⟨B2, hB2⟩ : ∃ B2, B2 = B.drop (en - m) := ⟨_, rfl⟩
        have hAA : A = A1 ++ A2 := by rw [hA1, hA2, List.take_append_drop]
        have hBB : B = B1 ++ B2 := by rw [hB1, hB2, List.take_append_drop]
        have q1 : A1.length = i - a ∧ A2.length = m - i ∧ B1.length = en - m ∧ B2.length = b - en := by
          rw [hA1, hA2, hB1, hB2, List.length_take, List.length_drop, List.length_take, List.length_drop]
          have := HQ.out.hm; have := HQ.out.hb; omega
        rw [← hA1, ← hB2] at X1
        rw [← hA2, ← hB1] at X2
        have HX1 := Aside0.mk X1
        have HX2 := Aside0.mk X2
        have HAA := Aside0.mk hAA
        have HBB := Aside0.mk hBB
        have HLN := Aside0.mk q1
        have HR0 : Aside0 (Rw wr g (P ++ (A1 ++ (A2 ++ (B1 ++ (B2 ++ T)))))) := ⟨by
          have := HQ.out.hg.heap HH.out
          rw [hAA, hBB] at this
          simpa using this⟩
        have HKr := Aside0.mk (HCC.out.heap _ _ HQ.out.hk HH.out)
        clear X1 X2 hAA hBB q1 hA1 hA2 hB1 hB2 hen
        have hlen := HLN.out
        have st0 : Aside0 (St0 g Kp P A1 A2 B1 B2 T wc wr) := ⟨⟨HR0.out, HKr.out, HP.out⟩⟩
        have S01 : Aside0 (i = m ∨ m = en → ∀ W, St0 g Kp P A1 A2 B1 B2 T wc W → St1 g Kp P A1 A2 B1 B2 T wc W) := ⟨fun h W hw => ⟨by
          have hn : A2 = [] ∨ B1 = [] := h.imp (fun e => List.eq_nil_of_length_eq_zero (by omega)) (fun e => List.eq_nil_of_length_eq_zero (by omega))
          have := hw.1
          rw [← List.append_assoc P A1, swap_nil hn, List.append_assoc P A1] at this
          exact this, hw.2⟩⟩
        have S12 : Aside0 (a = i ∨ m = en → ∀ W, St1 g Kp P A1 A2 B1 B2 T wc W → St2 g K Kp P A1 A2 B1 B2 T wc W) := ⟨fun h W hw => ⟨⟨A1 ++ B1, List.Perm.refl _, by
          have hn : A1 = [] ∨ B1 = [] := h.imp (fun e => List.eq_nil_of_length_eq_zero (by omega)) (fun e => List.eq_nil_of_length_eq_zero (by omega))
          have h1 := HQ.out.hA
          have h2 := HQ.out.hB
          rw [HAA.out] at h1
          rw [HBB.out] at h2
          exact srtd_nil_or (List.pairwise_append.1 h1).1 (List.pairwise_append.1 h2).1 hn, by rw [List.append_assoc]; exact hw.1⟩, hw.2⟩⟩
        have HJ : ∀ C1 C2, C1.Perm (A1 ++ B1) → Srtd K C1 → C2.Perm (A2 ++ B2) → Srtd K C2 → Srtd K (C1 ++ C2) ∧ (C1 ++ C2).Perm (A ++ B) := fun C1 C2 p1 s1 p2 s2 => by
          have h1 := HQ.out.hA
          have h2 := HQ.out.hB
          rw [HAA.out] at h1 ⊢
          rw [HBB.out] at h2 ⊢
          exact merge_cut h1 h2 HX1.out HX2.out p1 s1 p2 s2
        have S23 : Aside0 (i = m ∨ en = b → ∀ W, St2 g K Kp P A1 A2 B1 B2 T wc W → St3 g K P A B T wc W) := ⟨fun h W hw => by
          obtain ⟨⟨C, p1, s1, hr⟩, _, hp⟩ := hw
          have hn : A2 = [] ∨ B2 = [] := h.imp (fun e => List.eq_nil_of_length_eq_zero (by omega)) (fun e => List.eq_nil_of_length_eq_zero (by omega))
          have h1 := HQ.out.hA
          have h2 := HQ.out.hB
          rw [HAA.out] at h1
          rw [HBB.out] at h2
          obtain ⟨g1, g2⟩ := HJ C (A2 ++ B2) p1 s1 (List.Perm.refl _) (srtd_nil_or (List.pairwise_append.1 h1).2.1 (List.pairwise_append.1 h2).2.1 hn)
          exact ⟨⟨C ++ (A2 ++ B2), by simpa using hr, g2, g1⟩, hp⟩⟩
        have HPA := HQ.out.ha
        have HROT : Aside0 (0 < A2.length → 0 < B1.length → Calls Try.prog 20 #[.slice (some ⟨g, 0, none⟩) N c, .int .i64 i, .int .i64 m, .int .i64 en, .func (.func 14) #[] #[pv]] wr (fun e w' => e = .returned (.tuple #[]) ∧ St1 g Kp P A1 A2 B1 B2 T wc w')) := ⟨fun g1 g2 => by
          have hr : Rw wr g ((P ++ A1) ++ (A2 ++ (B1 ++ (B2 ++ T)))) := by rw [List.append_assoc]; exact HR0.out
          refine (rot_calls g N c i m en (P ++ A1) A2 B1 (B2 ++ T) wr hr ?_ ?_ ?_ ?_ g1 g2 hN _).mono ?_
          · have := HQ.out.hL
            rw [HAA.out, HBB.out] at this
            simpa using this
          · rw [List.length_append]; omega
          · omega
          · omega
          · rintro e w' ⟨he, ⟨L', hl, rfl⟩, hp⟩
            exact ⟨he, by rw [List.append_assoc] at hl; exact hl, HCC.out.keep _ _ HKr.out hp, HP.out.trans hp⟩⟩
        have HS1 : Aside0 (0 < A1.length → 0 < B1.length → ∀ W, St1 g Kp P A1 A2 B1 B2 T wc W → Calls Try.prog 19 #[.slice (some ⟨g, 0, none⟩) N c, .int .i64 a, .int .i64 i, .int .i64 q, .func (.func 14) #[] #[pv]] W (fun e w' => e = .returned (.tuple #[]) ∧ St2 g K Kp P A1 A2 B1 B2 T wc w')) := ⟨fun g1 g2 W hw => by
          have h1 := HQ.out.hA
          have h2 := HQ.out.hB
          rw [HAA.out] at h1
          rw [HBB.out] at h2
          refine Calls.mono (HIH.out a i q P A1 B1 (A2 ++ (B2 ++ T)) W (by rw [HAA.out, HBB.out, List.length_append, List.length_append]; omega) ⟨hw.2.1, hw.1, ?_, HPA, by omega, by omega, (List.pairwise_append.1 h1).1, (List.pairwise_append.1 h2).1, ?_, ?_, ?_, g1, g2⟩) ?_
          · have := HQ.out.hL
            rw [HAA.out, HBB.out] at this
            rw [← this]
            simp only [List.length_append]
            omega
          · exact fun x hx y hy => HQ.out.hlt x (by rw [HAA.out]; exact List.mem_append_left _ hx) y (by rw [HBB.out]; exact List.mem_append_left _ hy)
          · exact fun x hx => HQ.out.okA x (by rw [HAA.out]; exact List.mem_append_left _ hx)
          · exact fun x hx => HQ.out.okB x (by rw [HBB.out]; exact List.mem_append_left _ hx)
          · rintro e w' ⟨he, ⟨C, hr, p1, s1⟩, hp⟩
            exact ⟨he, ⟨C, p1, s1, hr⟩, HCC.out.keep _ _ hw.2.1 hp, hw.2.2.trans hp⟩⟩
        have HS2 : Aside0 (0 < A2.length → 0 < B2.length → ∀ W, St2 g K Kp P A1 A2 B1 B2 T wc W → Calls Try.prog 19 #[.slice (some ⟨g, 0, none⟩) N c, .int .i64 q, .int .i64 en, .int .i64 b, .func (.func 14) #[] #[pv]] W (fun e w' => e = .returned (.tuple #[]) ∧ St3 g K P A B T wc w')) := ⟨fun g1 g2 W hw => by
          obtain ⟨⟨C, p1, s1, hr⟩, hk, hp0⟩ := hw
          have hC := p1.length_eq
          rw [List.length_append] at hC
          have h1 := HQ.out.hA
          have h2 := HQ.out.hB
          rw [HAA.out] at h1
          rw [HBB.out] at h2
          refine Calls.mono (HIH.out q en b (P ++ C) A2 B2 T W (by rw [HAA.out, HBB.out, List.length_append, List.length_append]; omega) ⟨hk, by rw [List.append_assoc]; exact hr, ?_, by rw [List.length_append]; omega, by omega, by omega, (List.pairwise_append.1 h1).2.1, (List.pairwise_append.1 h2).2.1, ?_, ?_, ?_, g1, g2⟩) ?_
          · have := HQ.out.hL
            rw [HAA.out, HBB.out] at this
            rw [← this]
            simp only [List.length_append]
            omega
          · exact fun x hx y hy => HQ.out.hlt x (by rw [HAA.out]; exact List.mem_append_right _ hx) y (by rw [HBB.out]; exact List.mem_append_right _ hy)
          · exact fun x hx => HQ.out.okA x (by rw [HAA.out]; exact List.mem_append_right _ hx)
          · exact fun x hx => HQ.out.okB x (by rw [HBB.out]; exact List.mem_append_right _ hx)
          · rintro e w' ⟨he, ⟨C2, hr2, p2, s2⟩, hp⟩
            obtain ⟨j1, j2⟩ := HJ C C2 p1 s1 p2 s2
            exact ⟨he, ⟨C ++ C2, by simpa using hr2, j2, j1⟩, hp0.trans hp⟩⟩
        clear HJ HPA HR0 HX1 HX2 HLN HKr HIH HLi HHj HLO HHI HH HP
        have c1 : i = m ∨ i < m := by omega
        have c2 : m = en ∨ m < en := by omega
        have c3 : a = i ∨ a < i := by omega
        have c6 : en = b ∨ en < b := by omega
        obtain ⟨lA1, hlA1⟩ : ∃ l, l = A1.length := ⟨_, rfl⟩
        obtain ⟨lA2, hlA2⟩ : ∃ l, l = A2.length := ⟨_, rfl⟩
        obtain ⟨lB1, hlB1⟩ : ∃ l, l = B1.length := ⟨_, rfl⟩
        obtain ⟨lB2, hlB2⟩ : ∃ l, l = B2.length := ⟨_, rfl⟩
        rw [← hlA1, ← hlA2, ← hlB1, ← hlB2] at hlen
        rw [← hlA2, ← hlB1] at HROT
        rw [← hlA1, ← hlB1] at HS1
        rw [← hlA2, ← hlB2] at HS2
        clear hlA1 hlA2 hlB1 hlB2
        rcases c1 with c1 | c1 <;> rcases c3 with c3 | c3 <;> rcases c2 with c2 | c2 <;> rcases c6 with c6 | c6
        -- ENDS
        · exfalso; omega
        · exfalso; omega
        · exfalso; omega
        · exfalso; omega
        · exfalso; omega
        · have d2 : decide (i < m) = false := by simp only [decide_eq_true_eq, decide_eq_false_iff_not]; omega
          have d3 : decide (m < en) = false := by simp only [decide_eq_true_eq, decide_eq_false_iff_not]; omega
          have d4 : decide (a < i) = true := by simp only [decide_eq_true_eq, decide_eq_false_iff_not]; omega
          have d5 : decide (i < q) = false := by simp only [decide_eq_true_eq, decide_eq_false_iff_not]; omega
          have d6 : decide (q < en) = false := by simp only [decide_eq_true_eq, decide_eq_false_iff_not]; omega
          have d7 : decide (en < b) = true := by simp only [decide_eq_true_eq, decide_eq_false_iff_not]; omega
          have N1 := Aside0.mk (S01.out (by omega))
          have N2 := Aside0.mk (S12.out (by omega))
          have N3 := Aside0.mk (S23.out (by omega))
          clear c1 c2 c3 c6 hlen hen2 HROT HS1 HS2 S01 S12 S23
          have st1 := Aside0.mk (N1.out _ st0.out)
          have st2 := Aside0.mk (N2.out _ st1.out)
          have st3 := Aside0.mk (N3.out _ st2.out)
          go_wp2_with (fail)
          go_end0
          exact ⟨rfl, st3.out.1, st3.out.2⟩
        · have d2 : decide (i < m) = false := by simp only [decide_eq_true_eq, decide_eq_false_iff_not]; omega
          have d3 : decide (m < en) = true := by simp only [decide_eq_true_eq, decide_eq_false_iff_not]; omega
          have d4 : decide (a < i) = true := by simp only [decide_eq_true_eq, decide_eq_false_iff_not]; omega
          have d5 : decide (i < q) = true := by simp only [decide_eq_true_eq, decide_eq_false_iff_not]; omega
          have d6 : decide (q < en) = false := by simp only [decide_eq_true_eq, decide_eq_false_iff_not]; omega
          have d7 : decide (en < b) = false := by simp only [decide_eq_true_eq, decide_eq_false_iff_not]; omega
          have N1 := Aside0.mk (S01.out (by omega))
          have R2 := Aside0.mk (HS1.out (by omega) (by omega))
          have N3 := Aside0.mk (S23.out (by omega))
          clear c1 c2 c3 c6 hlen hen2 HROT HS1 HS2 S01 S12 S23
          have st1 := Aside0.mk (N1.out _ st0.out)
          go_wp2_with (first | (go_at_call 19; (with_reducible refine Calls.mono (R2.out _ st1.out) ?_); rintro e w2 ⟨rfl, st2'⟩; have st2 := Aside0.mk st2'; clear st2'; have st3 := Aside0.mk (N3.out _ st2.out)) | fail)
          go_end0
          exact ⟨rfl, st3.out.1, st3.out.2⟩
        · have d2 : decide (i < m) = false := by simp only [decide_eq_true_eq, decide_eq_false_iff_not]; omega
          have d3 : decide (m < en) = true := by simp only [decide_eq_true_eq, decide_eq_false_iff_not]; omega
          have d4 : decide (a < i) = true := by simp only [decide_eq_true_eq, decide_eq_false_iff_not]; omega
          have d5 : decide (i < q) = true := by simp only [decide_eq_true_eq, decide_eq_false_iff_not]; omega
          have d6 : decide (q < en) = false := by simp only [decide_eq_true_eq, decide_eq_false_iff_not]; omega
          have d7 : decide (en < b) = true := by simp only [decide_eq_true_eq, decide_eq_false_iff_not]; omega
          have N1 := Aside0.mk (S01.out (by omega))
          have R2 := Aside0.mk (HS1.out (by omega) (by omega))
          have N3 := Aside0.mk (S23.out (by omega))
          clear c1 c2 c3 c6 hlen hen2 HROT HS1 HS2 S01 S12 S23
          have st1 := Aside0.mk (N1.out _ st0.out)
          go_wp2_with (first | (go_at_call 19; (with_reducible refine Calls.mono (R2.out _ st1.out) ?_); rintro e w2 ⟨rfl, st2'⟩; have st2 := Aside0.mk st2'; clear st2'; have st3 := Aside0.mk (N3.out _ st2.out)) | fail)
          go_end0
          exact ⟨rfl, st3.out.1, st3.out.2⟩
        · exfalso; omega
        · have d2 : decide (i < m) = true := by simp only [decide_eq_true_eq, decide_eq_false_iff_not]; omega
          have d3 : decide (m < en) = false := by simp only [decide_eq_true_eq, decide_eq_false_iff_not]; omega
          have d4 : decide (a < i) = false := by simp only [decide_eq_true_eq, decide_eq_false_iff_not]; omega
          have d5 : decide (i < q) = false := by simp only [decide_eq_true_eq, decide_eq_false_iff_not]; omega
          have d6 : decide (q < en) = true := by simp only [decide_eq_true_eq, decide_eq_false_iff_not]; omega
          have d7 : decide (en < b) = true := by simp only [decide_eq_true_eq, decide_eq_false_iff_not]; omega
          have N1 := Aside0.mk (S01.out (by omega))
          have N2 := Aside0.mk (S12.out (by omega))
          have R3 := Aside0.mk (HS2.out (by omega) (by omega))
          clear c1 c2 c3 c6 hlen hen2 HROT HS1 HS2 S01 S12 S23
          have st1 := Aside0.mk (N1.out _ st0.out)
          have st2 := Aside0.mk (N2.out _ st1.out)
          go_wp2_with (first | (go_at_call 19; (with_reducible refine Calls.mono (R3.out _ st2.out) ?_); rintro e w3 ⟨rfl, st3'⟩; have st3 := Aside0.mk st3'; clear st3') | fail)
          go_end0
          exact ⟨rfl, st3.out.1, st3.out.2⟩
        · have d2 : decide (i < m) = true := by simp only [decide_eq_true_eq, decide_eq_false_iff_not]; omega
          have d3 : decide (m < en) = true := by simp only [decide_eq_true_eq, decide_eq_false_iff_not]; omega
          have d4 : decide (a < i) = false := by simp only [decide_eq_true_eq, decide_eq_false_iff_not]; omega
          have d5 : decide (i < q) = true := by simp only [decide_eq_true_eq, decide_eq_false_iff_not]; omega
          have d6 : decide (q < en) = true := by simp only [decide_eq_true_eq, decide_eq_false_iff_not]; omega
          have d7 : decide (en < b) = false := by simp only [decide_eq_true_eq, decide_eq_false_iff_not]; omega
          have R1 := Aside0.mk (HROT.out (by omega) (by omega))
          have N2 := Aside0.mk (S12.out (by omega))
          have N3 := Aside0.mk (S23.out (by omega))
          clear c1 c2 c3 c6 hlen hen2 HROT HS1 HS2 S01 S12 S23
          go_wp2_with (first | (go_at_call 20; (with_reducible refine Calls.mono R1.out ?_); rintro e w1 ⟨rfl, st1'⟩; have st1 := Aside0.mk st1'; clear st1'; have st2 := Aside0.mk (N2.out _ st1.out); have st3 := Aside0.mk (N3.out _ st2.out)) | fail)
          go_end0
          exact ⟨rfl, st3.out.1, st3.out.2⟩
        · have d2 : decide (i < m) = true := by simp only [decide_eq_true_eq, decide_eq_false_iff_not]; omega
          have d3 : decide (m < en) = true := by simp only [decide_eq_true_eq, decide_eq_false_iff_not]; omega
          have d4 : decide (a < i) = false := by simp only [decide_eq_true_eq, decide_eq_false_iff_not]; omega
          have d5 : decide (i < q) = true := by simp only [decide_eq_true_eq, decide_eq_false_iff_not]; omega
          have d6 : decide (q < en) = true := by simp only [decide_eq_true_eq, decide_eq_false_iff_not]; omega
          have d7 : decide (en < b) = true := by simp only [decide_eq_true_eq, decide_eq_false_iff_not]; omega
          have R1 := Aside0.mk (HROT.out (by omega) (by omega))
          have N2 := Aside0.mk (S12.out (by omega))
          have R3 := Aside0.mk (HS2.out (by omega) (by omega))
          clear c1 c2 c3 c6 hlen hen2 HROT HS1 HS2 S01 S12 S23
          go_wp2_with (first | (go_at_call 20; (with_reducible refine Calls.mono R1.out ?_); rintro e w1 ⟨rfl, st1'⟩; have st1 := Aside0.mk st1'; clear st1'; have st2 := Aside0.mk (N2.out _ st1.out)) | (go_at_call 19; (with_reducible refine Calls.mono (R3.out _ st2.out) ?_); rintro e w3 ⟨rfl, st3'⟩; have st3 := Aside0.mk st3'; clear st3') | fail)
          go_end0
          exact ⟨rfl, st3.out.1, st3.out.2⟩
        · exfalso; omega
        · have d2 : decide (i < m) = true := by simp only [decide_eq_true_eq, decide_eq_false_iff_not]; omega
          have d3 : decide (m < en) = false := by simp only [decide_eq_true_eq, decide_eq_false_iff_not]; omega
          have d4 : decide (a < i) = true := by simp only [decide_eq_true_eq, decide_eq_false_iff_not]; omega
          have d5 : decide (i < q) = false := by simp only [decide_eq_true_eq, decide_eq_false_iff_not]; omega
          have d6 : decide (q < en) = true := by simp only [decide_eq_true_eq, decide_eq_false_iff_not]; omega
          have d7 : decide (en < b) = true := by simp only [decide_eq_true_eq, decide_eq_false_iff_not]; omega
          have N1 := Aside0.mk (S01.out (by omega))
          have N2 := Aside0.mk (S12.out (by omega))
          have R3 := Aside0.mk (HS2.out (by omega) (by omega))
          clear c1 c2 c3 c6 hlen hen2 HROT HS1 HS2 S01 S12 S23
          have st1 := Aside0.mk (N1.out _ st0.out)
          have st2 := Aside0.mk (N2.out _ st1.out)
          go_wp2_with (first | (go_at_call 19; (with_reducible refine Calls.mono (R3.out _ st2.out) ?_); rintro e w3 ⟨rfl, st3'⟩; have st3 := Aside0.mk st3'; clear st3') | fail)
          go_end0
          exact ⟨rfl, st3.out.1, st3.out.2⟩
        · have d2 : decide (i < m) = true := by simp only [decide_eq_true_eq, decide_eq_false_iff_not]; omega
          have d3 : decide (m < en) = true := by simp only [decide_eq_true_eq, decide_eq_false_iff_not]; omega
          have d4 : decide (a < i) = true := by simp only [decide_eq_true_eq, decide_eq_false_iff_not]; omega
          have d5 : decide (i < q) = true := by simp only [decide_eq_true_eq, decide_eq_false_iff_not]; omega
          have d6 : decide (q < en) = true := by simp only [decide_eq_true_eq, decide_eq_false_iff_not]; omega
          have d7 : decide (en < b) = false := by simp only [decide_eq_true_eq, decide_eq_false_iff_not]; omega
          have R1 := Aside0.mk (HROT.out (by omega) (by omega))
          have R2 := Aside0.mk (HS1.out (by omega) (by omega))
          have N3 := Aside0.mk (S23.out (by omega))
          clear c1 c2 c3 c6 hlen hen2 HROT HS1 HS2 S01 S12 S23
          go_wp2_with (first | (go_at_call 20; (with_reducible refine Calls.mono R1.out ?_); rintro e w1 ⟨rfl, st1'⟩; have st1 := Aside0.mk st1'; clear st1') | (go_at_call 19; (with_reducible refine Calls.mono (R2.out _ st1.out) ?_); rintro e w2 ⟨rfl, st2'⟩; have st2 := Aside0.mk st2'; clear st2'; have st3 := Aside0.mk (N3.out _ st2.out)) | fail)
          go_end0
          exact ⟨rfl, st3.out.1, st3.out.2⟩
        · have d2 : decide (i < m) = true := by simp only [decide_eq_true_eq, decide_eq_false_iff_not]; omega
          have d3 : decide (m < en) = true := by simp only [decide_eq_true_eq, decide_eq_false_iff_not]; omega
          have d4 : decide (a < i) = true := by simp only [decide_eq_true_eq, decide_eq_false_iff_not]; omega
          have d5 : decide (i < q) = true := by simp only [decide_eq_true_eq, decide_eq_false_iff_not]; omega
          have d6 : decide (q < en) = true := by simp only [decide_eq_true_eq, decide_eq_false_iff_not]; omega
          have d7 : decide (en < b) = true := by simp only [decide_eq_true_eq, decide_eq_false_iff_not]; omega
          have R1 := Aside0.mk (HROT.out (by omega) (by omega))
          have R2 := Aside0.mk (HS1.out (by omega) (by omega))
          have R3 := Aside0.mk (HS2.out (by omega) (by omega))
          clear c1 c2 c3 c6 hlen hen2 HROT HS1 HS2 S01 S12 S23
          go_wp2_with (first | (go_at_call 20; (with_reducible refine Calls.mono R1.out ?_); rintro e w1 ⟨rfl, st1'⟩; have st1 := Aside0.mk st1'; clear st1') | (go_at_call 19; (with_reducible refine Calls.mono (R2.out _ st1.out) ?_); rintro e w2 ⟨rfl, st2'⟩; have st2 := Aside0.mk st2'; clear st2') | (go_at_call 19; (with_reducible refine Calls.mono (R3.out _ st2.out) ?_); rintro e w3 ⟨rfl, st3'⟩; have st3 := Aside0.mk st3'; clear st3') | fail)
          go_end0
          exact ⟨rfl, st3.out.1, st3.out.2⟩
#print axioms sym_gen

theorem sym_calls (g N c : Nat) (K : Int → Int) (ok : Int → Prop) (Kp : World → Prop) (pv : Value) (HC : CmpOK g K ok Kp pv) (hN : N < 2305843009213693952) :
    ∀ n a m b P A B T w, A.length + B.length ≤ n → SymPre g N a m b K ok Kp P A B T w → SymAt g N c a m b K pv P A B T w := by
  intro n
  induction n with
  | zero =>
    intro a m b P A B T w hn hp
    have := hp.nA
    omega
  | succ n ih =>
    intro a m b P A B T w hn hp
    by_cases h1 : A.length = 1
    · match A, h1, hp with
      | [x], _, hp =>
        exact sym_one g N c a m b K ok Kp pv HC P B T x w hp.hk hp.hg hp.hL hp.ha hp.hm hp.hb hp.hB (fun y hy => hp.hlt x (by simp) y hy) (hp.okA x (by simp)) hp.okB hN
    · by_cases h2 : B.length = 1
      · match B, h2, hp with
        | [x], _, hp =>
          exact sym_last g N c a m b K ok Kp pv HC P A T x w hp.hk hp.hg hp.hL hp.ha hp.hm hp.hb hp.hA h1 (fun y hy => hp.hlt y hy x (by simp)) (hp.okB x (by simp)) hp.okA hN
      · exact sym_gen g N c a m b K ok Kp pv HC P A B T w hN hp h1 h2 (fun a' m' b' P' A' B' T' w' hl hp' => ih a' m' b' P' A' B' T' w' (by omega) hp')
#print axioms sym_calls
end Go.Proofs.Ytfokcaillibajaa.Srt
