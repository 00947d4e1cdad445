/- The sort's insertion walked. Conditions: the order's function answers as the values say. -/
import Derived.Test.YtfokcaillibajaaSortA
import Derived.IntWalk
namespace Go.Proofs.Ytfokcaillibajaa.Srt
open Go.RowKit Go.Proofs.YtfokcaillibajaaW.PrintWords
set_option linter.unusedVariables false
set_option linter.unusedSimpArgs false

/-- cmp(x, y) of two values: below 0 just if the first one's is the greater. -/
def cv (u v : Int) : Int := if v < u then -1 else if u < v then 1 else 0
theorem cv_neg {u v : Int} : cv u v < 0 ↔ v < u := by unfold cv; split <;> (try split) <;> omega
structure CmpOK (g : Nat) (K : Int → Int) (ok : Int → Prop) (Kp : World → Prop) (pv : Value) : Prop where
  keep : ∀ W W', Kp W → Ap (fun k => k = g) W W' → Kp W'
  heap : ∀ W W', Kp W → W'.heap = W.heap → Kp W'
  calls : ∀ W x y, Kp W → ok x → ok y → Calls Try.prog 14 #[.int .i64 x, .int .i64 y, pv] W (fun e w' => e = .returned (.int .i64 (cv (K x) (K y))) ∧ ∃ q, w' = W.drewN q)
theorem CmpOK.at {g : Nat} {K : Int → Int} {ok : Int → Prop} {Kp : World → Prop} {pv : Value} (h : CmpOK g K ok Kp pv) {W : World} (hw : Kp W) {x y : Int} (hx : ok x) (hy : ok y) {v : Int} (hv : v = cv (K x) (K y)) :
    ∀ W1, W1.heap = W.heap → Calls Try.prog 14 #[.int .i64 x, .int .i64 y, pv] W1 (fun e w' => e = .returned (.int .i64 v) ∧ ∃ q, w' = W1.drewN q) := fun W1 e => by subst hv; exact h.calls W1 x y (h.heap _ _ hw e) hx hy
theorem CmpOK.drew {g : Nat} {K : Int → Int} {ok : Int → Prop} {Kp : World → Prop} {pv : Value} (h : CmpOK g K ok Kp pv) {W : World} (hw : Kp W) : Kp W.drew := h.keep _ _ hw (Ap.refl _ W).drew

theorem getD_app {A B : List Int} {i : Nat} (h : A.length ≤ i) : (A ++ B).getD i 0 = B.getD (i - A.length) 0 := by rw [List.getD_eq_getElem?_getD, List.getElem?_append_right h, ← List.getD_eq_getElem?_getD]

/-! ### insertion: what stands where -/
structure OutS (K : Int → Int) (P D T : List Int) (a i g : Nat) (w : World) : Prop where
  st : ∃ S, S.Perm (D.take (i - a)) ∧ Srtd K S ∧ Rw w g (P ++ (S ++ (D.drop (i - a) ++ T)))
structure InS (K : Int → Int) (P D T : List Int) (a i j : Nat) (x : Int) (g : Nat) (w : World) : Prop where
  st : ∃ S1 S2, (S1 ++ S2).Perm (D.take (i - a)) ∧ Srtd K (S1 ++ S2) ∧ S1.length + a = j ∧ (∀ y ∈ S2, ahead K x y) ∧ Rw w g (P ++ (S1 ++ (x :: (S2 ++ (D.drop (i - a + 1) ++ T)))))
theorem OutS.start {K : Int → Int} {P D T : List Int} {a g : Nat} {w : World} (h : Rw w g (P ++ (D ++ T))) : OutS K P D T a (a + 1) g w := by
  refine ⟨D.take 1, by rw [show a + 1 - a = 1 by omega], ?_, ?_⟩
  · match D with
    | [] => exact List.Pairwise.nil
    | x :: D => exact List.pairwise_singleton _ _
  · rw [show a + 1 - a = 1 by omega, ← List.append_assoc (D.take 1), List.take_append_drop]
    exact h
theorem OutS.enter {K : Int → Int} {P D T : List Int} {a i g : Nat} {w : World} (h : OutS K P D T a i g w) (hi : a ≤ i) (hb : i < a + D.length) : InS K P D T a i i (D.getD (i - a) 0) g w := by
  obtain ⟨S, h1, h2, h3⟩ := h.st
  refine ⟨S, [], by simpa using h1, by simpa using h2, ?_, by simp, ?_⟩
  · rw [h1.length_eq, List.length_take]
    omega
  · rw [List.nil_append]
    have e : D.drop (i - a) = D.getD (i - a) 0 :: D.drop (i - a + 1) := by
      rw [List.drop_eq_getElem_cons (by omega)]
      simp [List.getD_eq_getElem?_getD, List.getElem?_eq_getElem (show i - a < D.length by omega)]
    rw [e] at h3
    exact h3
theorem InS.here {K : Int → Int} {P D T : List Int} {a i j g : Nat} {x : Int} {w : World} (h : InS K P D T a i j x g w) (hP : P.length = a) : w.cell? ⟨g, j, none⟩ = some (.int .i64 x) ∧ w.frozen? ⟨g, j, none⟩ = false := by
  obtain ⟨S1, S2, h1, h2, h3, h4, h5⟩ := h.st
  refine ⟨?_, h5.frozen _⟩
  have := h5.cell (i := j) (by simp only [List.length_append, List.length_cons]; omega)
  rw [this, ← List.append_assoc, getD_app (by rw [List.length_append]; omega), List.length_append, show j - (P.length + S1.length) = 0 by omega]
  rfl
theorem InS.before {K : Int → Int} {P D T : List Int} {a i j g : Nat} {x : Int} {w : World} (h : InS K P D T a i j x g w) (hP : P.length = a) (hj : a < j) : ∃ y, y ∈ D.take (i - a) ∧ w.cell? ⟨g, j - 1, none⟩ = some (.int .i64 y) ∧ w.frozen? ⟨g, j - 1, none⟩ = false ∧
    (ahead K x y → ∀ w1, w1.heap = ((w.setCell ⟨g, j, none⟩ (.int .i64 y)).setCell ⟨g, j - 1, none⟩ (.int .i64 x)).heap → InS K P D T a i (j - 1) x g w1) ∧
    (ahead K y x → i < a + D.length → x = D.getD (i - a) 0 → a ≤ i → OutS K P D T a (i + 1) g w) := by
  obtain ⟨S1, S2, h1, h2, h3, h4, h5⟩ := h.st
  obtain ⟨S, y, rfl⟩ : ∃ S y, S1 = S ++ [y] := by
    rcases List.eq_nil_or_concat S1 with e | ⟨S, y, e⟩
    · subst e; simp at h3; omega
    · exact ⟨S, y, by rw [e, List.concat_eq_append]⟩
  rw [List.length_append, List.length_singleton] at h3
  have hL : (P ++ (S ++ [y] ++ (x :: (S2 ++ (D.drop (i - a + 1) ++ T))))) = (P ++ S) ++ y :: x :: (S2 ++ (D.drop (i - a + 1) ++ T)) := by simp
  rw [hL] at h5
  have hlen : (P ++ S).length = j - 1 := by rw [List.length_append]; omega
  refine ⟨y, h1.mem_iff.1 (by simp), ?_, h5.frozen _, fun ha w1 hw => ?_, fun ha hb hx hi => ?_⟩
  · have := h5.cell (i := j - 1) (by simp only [List.length_append, List.length_cons]; omega)
    rw [this, getD_app (by omega), hlen, Nat.sub_self]
    rfl
  · refine ⟨S, y :: S2, by simpa using h1, by simpa using h2, by omega, fun z hz => ?_, ?_⟩
    · rcases List.mem_cons.1 hz with rfl | hz
      · exact ha
      · exact h4 z hz
    · have hs := h5.swap j (j - 1)
      have e1 : ((P ++ S) ++ y :: x :: (S2 ++ (D.drop (i - a + 1) ++ T))).getD (j - 1) 0 = y := by
        rw [getD_app (by omega), hlen, Nat.sub_self]; rfl
      have e2 : ((P ++ S) ++ y :: x :: (S2 ++ (D.drop (i - a + 1) ++ T))).getD j 0 = x := by
        rw [getD_app (by omega), hlen, show j - (j - 1) = 1 by omega]; rfl
      rw [e1, e2, (swap_pair (P := P ++ S) (x := y) (y := x) (i := j - 1) (j := j) (by omega) (by omega)).2] at hs
      have := hs.heap hw
      simpa using this
  · have hx' : (D.take (i - a)) ++ [x] = D.take (i + 1 - a) := by
      rw [show i + 1 - a = (i - a) + 1 by omega, List.take_add_one, List.getElem?_eq_getElem (show i - a < D.length by omega), hx]
      simp [List.getD_eq_getElem?_getD, List.getElem?_eq_getElem (show i - a < D.length by omega)]
    refine ⟨(S ++ [y]) ++ x :: S2, ?_, srtd_insert h2 (fun z hz => ?_) h4, ?_⟩
    · rw [← hx']
      refine (List.perm_middle).trans ?_
      exact ((List.perm_append_singleton x _).symm.trans (h1.append_right [x]))
    · rw [List.getLast?_append] at hz
      simp at hz
      rw [← hz]
      exact ha
    · rw [show i + 1 - a = i - a + 1 by omega]
      simpa using h5
theorem InS.first {K : Int → Int} {P D T : List Int} {a i g : Nat} {x : Int} {w : World} (h : InS K P D T a i a x g w) (hi : a ≤ i) (hb : i < a + D.length) (hx : x = D.getD (i - a) 0) : OutS K P D T a (i + 1) g w := by
  obtain ⟨S1, S2, h1, h2, h3, h4, h5⟩ := h.st
  obtain rfl : S1 = [] := List.eq_nil_of_length_eq_zero (by omega)
  have hx' : (D.take (i - a)) ++ [x] = D.take (i + 1 - a) := by
    rw [show i + 1 - a = (i - a) + 1 by omega, List.take_add_one, List.getElem?_eq_getElem (show i - a < D.length by omega), hx]
    simp [List.getD_eq_getElem?_getD, List.getElem?_eq_getElem (show i - a < D.length by omega)]
  refine ⟨[] ++ x :: S2, ?_, srtd_insert h2 (fun z hz => by simp at hz) h4, ?_⟩
  · rw [← hx']
    refine (List.perm_middle).trans ?_
    exact ((List.perm_append_singleton x _).symm.trans (h1.append_right [x]))
  · rw [show i + 1 - a = i - a + 1 by omega]
    simpa using h5
theorem OutS.done {K : Int → Int} {P D T : List Int} {a i g : Nat} {w : World} (h : OutS K P D T a i g w) (hi : a + D.length ≤ i) : ∃ D', Rw w g (P ++ (D' ++ T)) ∧ D'.Perm D ∧ Srtd K D' := by
  obtain ⟨S, h1, h2, h3⟩ := h.st
  rw [List.take_of_length_le (by omega)] at h1
  rw [List.drop_of_length_le (by omega), List.nil_append] at h3
  exact ⟨S, h3, h1, h2⟩
theorem take_lt {D : List Int} {k : Nat} (h : D.Pairwise (· < ·)) (hk : k < D.length) {y : Int} (hy : y ∈ D.take k) : y < D.getD k 0 ∧ y ∈ D ∧ D.getD k 0 ∈ D := by
  have e : D = D.take k ++ D.getD k 0 :: D.drop (k + 1) := by
    conv => lhs; rw [← List.take_append_drop k D, List.drop_eq_getElem_cons hk]
    simp [List.getD_eq_getElem?_getD, List.getElem?_eq_getElem hk]
  have h2 := h
  rw [e] at h2
  refine ⟨(List.pairwise_append.1 h2).2.2 y hy _ (by simp), List.mem_of_mem_take hy, ?_⟩
  simp [List.getD_eq_getElem?_getD, List.getElem?_eq_getElem hk]
def SortsIn (g : Nat) (K : Int → Int) (P D T : List Int) (w : World) (e : Ending) (w' : World) : Prop := e = .returned (.tuple #[]) ∧ (∃ D', Rw w' g (P ++ (D' ++ T)) ∧ D'.Perm D ∧ Srtd K D') ∧ Ap (fun k => k = g) w w'
#print axioms OutS.done

set_option maxHeartbeats 8000000 in
theorem ins_calls (g N c a b : Nat) (K : Int → Int) (ok : Int → Prop) (Kp : World → Prop) (pv : Value) (HC : CmpOK g K ok Kp pv) (P D T : List Int) (w : World) (hk : Kp w) (hg : Rw w g (P ++ (D ++ T))) (hL : (P ++ (D ++ T)).length = N) (ha : P.length = a) (hb : b = a + D.length) (hlt : D.Pairwise (· < ·)) (hok : ∀ x ∈ D, ok x) (hN : N < 2305843009213693952) :
    Calls Try.prog 18 #[.slice (some ⟨g, 0, none⟩) N c, .int .i64 a, .int .i64 b, .func (.func 14) #[] #[pv]] w (SortsIn g K P D T w) := by
  have hbN : b ≤ N := by rw [← hL, hb, ← ha]; simp only [List.length_append]; omega
  have HG : Aside0 (OutS K P D T a (a + 1) g w) := ⟨OutS.start hg⟩
  have HB := Aside0.mk hb
  have HA := Aside0.mk ha
  have HLT := Aside0.mk hlt
  have HOK := Aside0.mk hok
  have HK := Aside0.mk hk
  have HCC := Aside0.mk HC
  have hab : a ≤ b := by omega
  clear hg hL hb ha hlt hok hk HC
  go_enter Try.func18, Try.ntmps18
  go_wp2_with fail
  go_loopg [8] (b - a) (fun gg v8 wr => ∃ i : Nat, v8 = .int .i64 i ∧ a + 1 ≤ i ∧ i ≤ b + 1 ∧ b ≤ i + gg ∧ Aside0 (OutS K P D T a i g wr) ∧ Aside0 (Kp wr) ∧ Aside0 (Ap (fun k => k = g) w wr))
  case atStart => exact ⟨a + 1, by first | rfl | (simp; done), by omega, by omega, by omega, HG, HK, ⟨Ap.refl _ _⟩⟩
  case round =>
    obtain ⟨i, rfl, hi1, hi2, hgg, HS, HKr, HP⟩ := hrel
    by_cases hib : i < b
    · have b1 : decide (i < b) = true := by simpa using hib
      obtain ⟨x, hx⟩ : ∃ x, x = D.getD (i - a) 0 := ⟨_, rfl⟩
      have HI : Aside0 (InS K P D T a i i x g wr) := ⟨by rw [hx]; exact HS.out.enter (by omega) (by have := HB.out; omega)⟩
      have HX : Aside0 (x = D.getD (i - a) 0) := ⟨hx⟩
      clear hx
      have hlen : i - a < D.length := by have := HB.out; omega
      have HLN := Aside0.mk hlen
      obtain ⟨gk0, rfl⟩ : ∃ gk0, gk0 = gk := ⟨gk, rfl⟩
      clear hlen
      go_wp2_with fail
      go_loopg [9] (i - a) (fun gg v9 wr1 => ∃ j : Nat, v9 = .int .i64 j ∧ a ≤ j ∧ j ≤ i ∧ j ≤ a + gg ∧ Aside0 (InS K P D T a i j x g wr1) ∧ Aside0 (Kp wr1) ∧ Aside0 (Ap (fun k => k = g) w wr1))
      case atStart => exact ⟨i, rfl, by omega, Nat.le_refl _, by omega, HI, HKr, HP⟩
      case round =>
        obtain ⟨j, rfl, hj1, hj2, hg2, HI1, HK1, HP1⟩ := hrel
        by_cases haj : a < j
        · have b2 : decide (a < j) = true := by simpa using haj
          obtain ⟨y, hy, cy, fy, hstep, hstop⟩ := HI1.out.before HA.out haj
          obtain ⟨cx, fx⟩ := HI1.out.here HA.out
          obtain ⟨hyx, hyD, hxD⟩ := take_lt HLT.out HLN.out hy
          rw [← HX.out] at hyx hxD
          obtain ⟨q, hq⟩ : ∃ q, q = j - 1 := ⟨_, rfl⟩
          have e1 : (j : Int) - 1 = (q : Int) := by omega
          rw [← hq] at cy fy hstep
          have hqj : q < j := by omega
          have haq : a ≤ q := by omega
          have hqg : q ≤ a + (gk - 1) := by omega
          have HQ := Aside0.mk hq
          obtain ⟨v, hv⟩ : ∃ v, v = cv (K x) (K y) := ⟨_, rfl⟩
          have HW := Aside0.mk (HCC.out.at HK1.out (HOK.out _ hxD) (HOK.out _ hyD) hv)
          by_cases hxy : K y < K x
          · have b3 : decide (v < 0) = true := by rw [hv]; simpa using cv_neg.2 hxy
            have hs := Aside0.mk (hstep ((later_ahead hyx).2 hxy))
            clear hstep hstop hxD hyD hyx hy hq hv hxy
            go_wp2_with fail
            go_quiet (first | (go_at_call 14; refine Calls.quiet_of (HW.out _ rfl)))
            go_wp2_with fail
            go_region
            refine name_world (X := fun w1 => Exit.inBlock _ _ _ _ w1) fun w1 hw1 => ?_
            have hI1 := Aside0.mk (hs.out w1 (by rw [hw1]; rfl))
            have hP1 : Ap (fun k => k = g) wr w1 := by rw [hw1]; first | exact Ap.drew ((Ap.drewN (Ap.refl _ _) _).trans (Ap.swap _ _)) | exact Ap.drewN (Ap.swap _ _) _
            have hK1 := Aside0.mk (HCC.out.keep _ _ HK1.out hP1)
            have hPP := Aside0.mk (HP1.out.trans hP1)
            clear hw1 hP1
            go_wp2_with fail
            go_roundg (gk - 1)
            case measure => omega
            case rel => exact ⟨q, by first | rfl | (simp; done), haq, by omega, hqg, hI1, hK1, hPP⟩
          · have b3 : decide (v < 0) = false := by rw [hv]; simp only [decide_eq_false_iff_not]; rw [cv_neg]; exact hxy
            have hs := Aside0.mk (hstop (((earlier_ahead hyx).2 hxy)) (by have := HLN.out; omega) HX.out (by omega))
            clear hstep hstop hxD hyD hyx hy hq hv hxy
            go_wp2_with fail
            go_quiet (first | (go_at_call 14; refine Calls.quiet_of (HW.out _ rfl)))
            have hI1 : Aside0 (OutS K P D T a (i + 1) g (wr.drewN nq)) := ⟨⟨hs.out.st⟩⟩
            have hK1 := Aside0.mk (HCC.out.heap _ (wr.drewN nq) HK1.out rfl)
            have hPP := Aside0.mk (HP1.out.drewN nq)
            go_wp2_with fail
            go_roundg (gk0 - 1)
            case measure => omega
            case rel => exact ⟨i + 1, by first | rfl | (simp; done), by omega, by omega, by omega, hI1, hK1, hPP⟩
        · have b2 : decide (a < j) = false := by simpa using haj
          obtain rfl : j = a := by omega
          have hs := Aside0.mk (HI1.out.first (by omega) (by have := HLN.out; omega) HX.out)
          go_wp2_with fail
          go_quiet (fail)
          have hI1 : Aside0 (OutS K P D T _ (i + 1) g (wr.drewN nq)) := ⟨⟨hs.out.st⟩⟩
          have hK1 := Aside0.mk (HCC.out.heap _ (wr.drewN nq) HK1.out rfl)
          have hPP := Aside0.mk (HP1.out.drewN nq)
          go_wp2_with fail
          go_roundg (gk0 - 1)
          case measure => omega
          case rel => exact ⟨i + 1, by first | rfl | (simp; done), by omega, by omega, by omega, hI1, hK1, hPP⟩
    · have b1 : decide (i < b) = false := by simpa using hib
      have hd : Aside0 (∃ D', Rw wr g (P ++ (D' ++ T)) ∧ D'.Perm D ∧ Srtd K D') := ⟨HS.out.done (by have := HB.out; omega)⟩
      go_wp2_with fail
      go_end0
      exact ⟨rfl, hd.out, HP.out⟩
#print axioms ins_calls
end Go.Proofs.Ytfokcaillibajaa.Srt
