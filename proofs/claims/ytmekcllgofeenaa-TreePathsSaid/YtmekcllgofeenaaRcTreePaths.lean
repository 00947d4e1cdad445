/- The document's Check of a tree, as the print has it, comes to the plain answer; lists compared and copied. Conditions: none. -/
import Derived.Test.YtmekcllgofeenaaPTreePathsx
import Derived.Test.YtmekcllgofeenaaN3
namespace Go.Proofs.Ytmekcllgofeenaa.RcTreePaths
open Go.RowKit Go.Proofs.YtmekcllgofeenaaW.PrintWords Go.Proofs.YtmekcllgofeenaaW.PrintLast Go.Proofs.YtmekcllgofeenaaW.PrintMore
open Go.Proofs.Ytmekcllgofeenaa.N3 Go.Proofs.Ytmekcllgofeenaa.PTreePaths
set_option linter.unusedVariables false
set_option linter.unusedSimpArgs false

def tr (x : S58) : N3 := (x.f0, x.f1, x.f2)
theorem kd_tr {w : World} {A : Option Addr} {n : Nat} {xs : List S58} (h : Kd.C k58 w A n xs) : Kd.C kN w A n (xs.map tr) := C_iso h
theorem tk_map (l : List S58) (i : Nat) : tk (l.map tr) i = tr (rd_T58 l (i : Int)) := by
  unfold tk rd_T58
  simp only [Int.toNat_natCast, List.getD_eq_getElem?_getD, List.getElem?_map]
  cases l[i]? <;> rfl
theorem pa_map (l : List S58) (i : Nat) : pa (l.map tr) i = (rd_T58 l (i : Int)).f0 := by unfold pa; rw [tk_map]; rfl
theorem tok_map (l : List S58) (i : Nat) : tok (l.map tr) i = (rd_T58 l (i : Int)).f1 := by unfold tok; rw [tk_map]; rfl
theorem dep_map (l : List S58) (i : Nat) : dep (l.map tr) i = (rd_T58 l (i : Int)).f2 := by unfold dep; rw [tk_map]; rfl
theorem w64 {x : Int} (h : -9223372036854775808 ≤ x) (h' : x ≤ 9223372036854775807) : wrap64 x = x := by unfold wrap64; omega

theorem l1_no (l : List S58) (i : Nat) (p t d r : Int) (hi : i < l.length) (hl : l.length ≤ 32) (hr : Ev (fun k => augurref14_Check.l0 k l ((i : Int) + 1)) r) :
    ∀ n q : Nat, q + n = i → 1 ≤ q → (∀ j, q ≤ j → j < i → ¬ ((rd_T58 l (j : Int)).f0 = p ∧ (rd_T58 l (j : Int)).f1 = t)) → Ev (fun k => augurref14_Check.l1 k l i q p t d) r := by
  intro n
  induction n with
  | zero =>
    intro q hq h1 h
    refine Ev.step (f := fun k => augurref14_Check.l0 k l ((i : Int) + 1)) (fun k => ?_) hr
    simp only [augurref14_Check.l1]
    rw [if_neg (by omega), w64 (by omega) (by omega)]
  | succ n ih =>
    intro q hq h1 h
    refine Ev.step (f := fun k => augurref14_Check.l1 k l i ((q + 1 : Nat) : Int) p t d) (fun k => ?_) (ih (q + 1) (by omega) (by omega) (fun j h2 h3 => h j (by omega) h3))
    simp only [augurref14_Check.l1]
    rw [if_pos (by omega), if_pos (by omega), if_pos (by omega), w64 (by omega) (by omega)]
    have hn := h q (Nat.le_refl _) (by omega)
    by_cases c : (rd_T58 l (q : Int)).f0 = p
    · rw [if_pos c, if_neg (fun e => hn ⟨c, e⟩)]
      rfl
    · rw [if_neg c]
      rfl

theorem l1_yes (l : List S58) (i : Nat) (p t d : Int) (hi : i < l.length) (hl : l.length ≤ 32) :
    ∀ n q : Nat, q + n = i → 1 ≤ q → (∃ j, q ≤ j ∧ j < i ∧ (rd_T58 l (j : Int)).f0 = p ∧ (rd_T58 l (j : Int)).f1 = t) → Ev (fun k => augurref14_Check.l1 k l i q p t d) 140 := by
  intro n
  induction n with
  | zero => rintro q hq h1 ⟨j, h2, h3, _⟩; omega
  | succ n ih =>
    intro q hq h1 h
    by_cases c : (rd_T58 l (q : Int)).f0 = p ∧ (rd_T58 l (q : Int)).f1 = t
    · refine Ev.step (f := fun k => some 140) (fun k => ?_) (Ev.now _)
      simp only [augurref14_Check.l1]
      rw [if_pos (by omega), if_pos (by omega), if_pos (by omega), if_pos c.1, if_pos c.2]
    · refine Ev.step (f := fun k => augurref14_Check.l1 k l i ((q + 1 : Nat) : Int) p t d) (fun k => ?_) (ih (q + 1) (by omega) (by omega) ?_)
      · simp only [augurref14_Check.l1]
        rw [if_pos (by omega), if_pos (by omega), if_pos (by omega), w64 (by omega) (by omega)]
        by_cases c0 : (rd_T58 l (q : Int)).f0 = p
        · rw [if_pos c0, if_neg (fun e => c ⟨c0, e⟩)]
          rfl
        · rw [if_neg c0]
          rfl
      · obtain ⟨j, h2, h3, h4⟩ := h
        refine ⟨j, ?_, h3, h4⟩
        rcases Nat.lt_or_ge q j with h5 | h5
        · omega
        · obtain rfl : j = q := by omega
          exact absurd h4 c

theorem j2_true (l : List S58) (i a b c : Int) : Ev (fun k => augurref14_Check.j2 k l i true a b c) 140 := by
  refine Ev.step (f := fun k => some 140) (fun k => ?_) (Ev.now _)
  simp [augurref14_Check.j2]

theorem l0_bad (l : List S58) (hl : l.length ≤ 32) (i : Nat) (h1 : 1 ≤ i) (hi : i < l.length) (h : ¬ okAt (l.map tr) i) : Ev (fun k => augurref14_Check.l0 k l (i : Int)) 140 := by
  unfold okAt at h
  simp only [pa_map, tok_map, dep_map] at h
  by_cases c1 : (rd_T58 l (i : Int)).f0 < 0
  · refine Ev.step (f := fun k => augurref14_Check.j2 k l i true (rd_T58 l (i : Int)).f0 (rd_T58 l (i : Int)).f1 (rd_T58 l (i : Int)).f2) (fun k => ?_) (j2_true _ _ _ _ _)
    simp only [augurref14_Check.l0]
    rw [if_pos (by omega), if_pos (by omega), if_pos c1]
  by_cases c2 : (rd_T58 l (i : Int)).f0 ≥ i
  · refine Ev.step (f := fun k => augurref14_Check.j2 k l i true (rd_T58 l (i : Int)).f0 (rd_T58 l (i : Int)).f1 (rd_T58 l (i : Int)).f2) (fun k => ?_) (j2_true _ _ _ _ _)
    simp only [augurref14_Check.l0]
    rw [if_pos (by omega), if_pos (by omega), if_neg c1, if_pos c2]
  by_cases c3 : (rd_T58 l (i : Int)).f1 < 1
  · refine Ev.step (f := fun k => augurref14_Check.j2 k l i true (rd_T58 l (i : Int)).f0 (rd_T58 l (i : Int)).f1 (rd_T58 l (i : Int)).f2) (fun k => ?_) (j2_true _ _ _ _ _)
    simp only [augurref14_Check.l0]
    rw [if_pos (by omega), if_pos (by omega), if_neg c1, if_neg c2, if_pos c3]
  obtain ⟨p, hp⟩ : ∃ p : Nat, (rd_T58 l (i : Int)).f0 = p := ⟨(rd_T58 l (i : Int)).f0.toNat, by omega⟩
  by_cases c4 : (rd_T58 l (i : Int)).f2 = wrap64 ((rd_T58 l (rd_T58 l (i : Int)).f0).f2 + 1)
  · have e1 : wrap64 ((i : Int) - 1) = ((i - 1 : Nat) : Int) := by rw [w64 (by omega) (by omega)]; omega
    by_cases c5 : (rd_T58 l (i : Int)).f2 < (rd_T58 l ((i - 1 : Nat) : Int)).f2
    · refine Ev.step (f := fun k => augurref14_Check.j2 k l i true (rd_T58 l (i : Int)).f0 (rd_T58 l (i : Int)).f1 (rd_T58 l (i : Int)).f2) (fun k => ?_) (j2_true _ _ _ _ _)
      simp only [augurref14_Check.l0]
      rw [if_pos (by omega), if_pos (by omega), if_neg c1, if_neg c2, if_neg c3, if_pos (by omega), if_pos (by omega), if_pos c4, e1, if_pos (by omega), if_pos (by omega), decide_eq_true c5]
    · have c6 : ∃ j, 1 ≤ j ∧ j < i ∧ (rd_T58 l (j : Int)).f0 = (rd_T58 l (i : Int)).f0 ∧ (rd_T58 l (j : Int)).f1 = (rd_T58 l (i : Int)).f1 := by
        refine Classical.byContradiction fun hn => h ⟨by omega, by omega, by omega, ?_, by omega, fun k k1 k2 k3 => hn ⟨k, k1, k2, k3.1, k3.2⟩⟩
        rw [c4, hp]
        rfl
      refine Ev.step (f := fun k => augurref14_Check.j2 k l i false (rd_T58 l (i : Int)).f0 (rd_T58 l (i : Int)).f1 (rd_T58 l (i : Int)).f2) (fun k => ?_) ?_
      · simp only [augurref14_Check.l0]
        rw [if_pos (by omega), if_pos (by omega), if_neg c1, if_neg c2, if_neg c3, if_pos (by omega), if_pos (by omega), if_pos c4, e1, if_pos (by omega), if_pos (by omega), decide_eq_false c5]
      · refine Ev.step (f := fun k => augurref14_Check.l1 k l i ((1 : Nat) : Int) (rd_T58 l (i : Int)).f0 (rd_T58 l (i : Int)).f1 (rd_T58 l (i : Int)).f2) (fun k => ?_) (l1_yes l i _ _ _ hi hl (i - 1) 1 (by omega) (Nat.le_refl _) c6)
        simp [augurref14_Check.j2]
  · refine Ev.step (f := fun k => augurref14_Check.j2 k l i true (rd_T58 l (i : Int)).f0 (rd_T58 l (i : Int)).f1 (rd_T58 l (i : Int)).f2) (fun k => ?_) (j2_true _ _ _ _ _)
    simp only [augurref14_Check.l0]
    rw [if_pos (by omega), if_pos (by omega), if_neg c1, if_neg c2, if_neg c3, if_pos (by omega), if_pos (by omega), if_neg c4]

theorem l0_good (l : List S58) (hl : l.length ≤ 32) (i : Nat) (r : Int) (h1 : 1 ≤ i) (hi : i < l.length) (h : okAt (l.map tr) i) (hr : Ev (fun k => augurref14_Check.l0 k l ((i : Int) + 1)) r) : Ev (fun k => augurref14_Check.l0 k l (i : Int)) r := by
  unfold okAt at h
  simp only [pa_map, tok_map, dep_map] at h
  obtain ⟨c1, c2, c3, c4, c5, c6⟩ := h
  have e1 : wrap64 ((i : Int) - 1) = ((i - 1 : Nat) : Int) := by rw [w64 (by omega) (by omega)]; omega
  have e2 : (((rd_T58 l (i : Int)).f0.toNat : Nat) : Int) = (rd_T58 l (i : Int)).f0 := by omega
  rw [e2] at c4
  refine Ev.step (f := fun k => augurref14_Check.j2 k l i false (rd_T58 l (i : Int)).f0 (rd_T58 l (i : Int)).f1 (rd_T58 l (i : Int)).f2) (fun k => ?_) ?_
  · simp only [augurref14_Check.l0]
    rw [if_pos (by omega), if_pos (by omega), if_neg (by omega), if_neg (by omega), if_neg (by omega), if_pos (by omega), if_pos (by omega), if_pos c4, e1, if_pos (by omega), if_pos (by omega), decide_eq_false (by omega)]
  · refine Ev.step (f := fun k => augurref14_Check.l1 k l i ((1 : Nat) : Int) (rd_T58 l (i : Int)).f0 (rd_T58 l (i : Int)).f1 (rd_T58 l (i : Int)).f2) (fun k => ?_) (l1_no l i _ _ _ r hi hl hr (i - 1) 1 (by omega) (Nat.le_refl _) (fun j j1 j2 => c6 j j1 j2))
    simp [augurref14_Check.j2]

open Classical in
theorem l0_any (l : List S58) (hl : l.length ≤ 32) : ∀ n i : Nat, i + n = l.length → 1 ≤ i → Ev (fun k => augurref14_Check.l0 k l (i : Int)) (if ∀ j, i ≤ j → j < l.length → okAt (l.map tr) j then 0 else 140) := by
  intro n
  induction n with
  | zero =>
    intro i hi h1
    rw [if_pos (fun j h2 h3 => by omega)]
    refine Ev.step (f := fun k => some 0) (fun k => ?_) (Ev.now _)
    simp only [augurref14_Check.l0]
    rw [if_neg (by omega)]
  | succ n ih =>
    intro i hi h1
    have ih1 := ih (i + 1) (by omega) (by omega)
    by_cases c : okAt (l.map tr) i
    · refine l0_good l hl i _ h1 (by omega) c ?_
      have e : (if ∀ j, i ≤ j → j < l.length → okAt (l.map tr) j then (0 : Int) else 140) = (if ∀ j, i + 1 ≤ j → j < l.length → okAt (l.map tr) j then 0 else 140) := by
        by_cases c2 : ∀ j, i + 1 ≤ j → j < l.length → okAt (l.map tr) j
        · rw [if_pos c2, if_pos (fun j h2 h3 => ?_)]
          rcases Nat.lt_or_ge i j with h4 | h4
          · exact c2 j h4 h3
          · obtain rfl : j = i := by omega
            exact c
        · rw [if_neg c2, if_neg (fun h => c2 (fun j h2 h3 => h j (by omega) h3))]
      rw [e]
      exact ih1
    · rw [if_neg (fun h => c (h i (Nat.le_refl _) (by omega)))]
      exact l0_bad l hl i h1 (by omega) c

theorem j0_true (l : List S58) : Ev (fun k => augurref14_Check.j0 k l true) 140 := by
  refine Ev.step (f := fun k => some 140) (fun k => ?_) (Ev.now _)
  simp [augurref14_Check.j0]

/-- The document's Check. -/
theorem ref_check (l : List S58) : ∃ k, augurref14_Check.f k l = some (chk (l.map tr)) := by
  have key : Ev (fun k => augurref14_Check.f k l) (chk (l.map tr)) := by
    by_cases c1 : (l.length : Int) < 1
    · rw [chk_no (fun h => by have := h.1.1; simp at this; omega)]
      exact Ev.congr (fun k => by unfold augurref14_Check.f; rw [if_pos c1]) (j0_true l)
    by_cases c2 : (l.length : Int) > 32
    · rw [chk_no (fun h => by have := h.1.2.1; simp at this; omega)]
      exact Ev.congr (fun k => by unfold augurref14_Check.f; rw [if_neg c1, if_pos c2]) (j0_true l)
    have hp0 := pa_map l 0
    have hd0 := dep_map l 0
    simp only [Int.natCast_zero, Int.cast_ofNat_Int] at hp0 hd0
    by_cases c3 : (rd_T58 l 0).f0 = -1
    · by_cases c4 : (rd_T58 l 0).f2 = 0
      · have e : chk (l.map tr) = @ite Int (∀ j, 1 ≤ j → j < l.length → okAt (l.map tr) j) (Classical.propDecidable _) 0 140 := by
          unfold chk isTree
          by_cases c5 : ∀ j, 1 ≤ j → j < l.length → okAt (l.map tr) j
          · rw [if_pos c5, if_pos ⟨⟨by simp; omega, by simp; omega, by rw [hp0]; exact c3, by rw [hd0]; exact c4⟩, fun j h1 h2 => c5 j h1 (by simpa using h2)⟩]
          · rw [if_neg c5, if_neg (fun h => c5 (fun j h1 h2 => h.2 j h1 (by simpa using h2)))]
        rw [e]
        refine Ev.congr (f := fun k => augurref14_Check.j0 k l false) (fun k => by unfold augurref14_Check.f; rw [if_neg c1, if_neg c2, if_pos (by omega), if_pos c3, bne_eq_false_iff_eq.2 c4]) ?_
        refine Ev.step (f := fun k => augurref14_Check.l0 k l ((1 : Nat) : Int)) (fun k => ?_) (l0_any l (by omega) (l.length - 1) 1 (by omega) (Nat.le_refl _))
        simp [augurref14_Check.j0]
      · rw [chk_no (fun h => c4 (by have := h.1.2.2.2; rw [hd0] at this; exact this))]
        exact Ev.congr (fun k => by unfold augurref14_Check.f; rw [if_neg c1, if_neg c2, if_pos (by omega), if_pos c3, bne_iff_ne.2 c4]) (j0_true l)
    · rw [chk_no (fun h => c3 (by have := h.1.2.2.1; rw [hp0] at this; exact this))]
      exact Ev.congr (fun k => by unfold augurref14_Check.f; rw [if_neg c1, if_neg c2, if_pos (by omega), if_neg c3]) (j0_true l)
  exact key.rounds

/-- A list is equal to itself. -/
theorem eq_loop (l : List S58) (hl : l.length ≤ 5864062014805) : ∀ n i : Nat, i + n = l.length → Ev (fun k => augurref00_EqNodes.l0 k l l (i : Int)) true := by
  intro n
  induction n with
  | zero =>
    intro i hi
    refine Ev.step (f := fun k => some true) (fun k => ?_) (Ev.now _)
    simp only [augurref00_EqNodes.l0]
    rw [if_neg (by omega)]
  | succ n ih =>
    intro i hi
    refine Ev.step (f := fun k => augurref00_EqNodes.l0 k l l ((i + 1 : Nat) : Int)) (fun k => ?_) (ih (i + 1) (by omega))
    simp only [augurref00_EqNodes.l0]
    rw [if_pos (by omega), if_pos (by omega), if_pos (by omega), w64 (by omega) (by omega), if_neg (by simp)]
    rfl
theorem eq_self (l : List S58) (hl : l.length ≤ 5864062014805) : ∃ k, augurref00_EqNodes.f k l l = some true :=
  (Ev.congr (f := fun k => augurref00_EqNodes.l0 k l l ((0 : Nat) : Int)) (fun k => by unfold augurref00_EqNodes.f; rw [if_pos rfl]; rfl) (eq_loop l hl l.length 0 (by omega))).rounds

theorem copy_loop (l : List S58) (hl : l.length ≤ 5864062014805) : ∀ n i : Nat, i + n = l.length → Ev (fun k => augurref00_CopyNodes.l0 k l (l.take i) (i : Int)) l := by
  intro n
  induction n with
  | zero =>
    intro i hi
    refine Ev.step (f := fun k => some l) (fun k => ?_) (Ev.now _)
    simp only [augurref00_CopyNodes.l0]
    rw [if_neg (by omega), List.take_of_length_le (by omega)]
  | succ n ih =>
    intro i hi
    refine Ev.step (f := fun k => augurref00_CopyNodes.l0 k l (l.take (i + 1)) ((i + 1 : Nat) : Int)) (fun k => ?_) (ih (i + 1) (by omega))
    have e : l.take (i + 1) = l.take i ++ [rd_T58 l (i : Int)] := by
      rw [List.take_succ_eq_append_getElem (by omega)]
      simp [rd_T58, List.getD_eq_getElem?_getD, List.getElem?_eq_getElem (show i < l.length by omega)]
    simp only [augurref00_CopyNodes.l0]
    rw [if_pos (by omega), if_pos (by omega), if_pos (by rw [List.length_take]; omega), w64 (by omega) (by omega), e]
    rfl
theorem copy_is (l : List S58) (hl : l.length ≤ 5864062014805) : ∃ k, augurref00_CopyNodes.f k l = some l :=
  (Ev.congr (f := fun k => augurref00_CopyNodes.l0 k l (l.take 0) ((0 : Nat) : Int)) (fun k => by unfold augurref00_CopyNodes.f; rfl) (copy_loop l hl l.length 0 (by omega))).rounds
#print axioms ref_check
#print axioms eq_self
#print axioms copy_is
end Go.Proofs.Ytmekcllgofeenaa.RcTreePaths
