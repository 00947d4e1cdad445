/- The document's ways of a tree, and two lists of numbers compared. Conditions: none. -/
import Derived.Test.YtmekcllgofeenaaTpB
import Derived.Test.YtmekcllgofeenaaSpTreePaths
namespace Go.Proofs.Ytmekcllgofeenaa.Tp
open Go.RowKit Go.Proofs.YtmekcllgofeenaaW.PrintWords Go.Proofs.YtmekcllgofeenaaW.PrintLast Go.Proofs.YtmekcllgofeenaaW.PrintMore
open Go.Proofs.Ytmekcllgofeenaa.N3 Go.Proofs.Ytmekcllgofeenaa.PTreePaths Go.Proofs.Ytmekcllgofeenaa.RcTreePaths Go.Proofs.Ytmekcllgofeenaa.SpTreePaths
set_option linter.unusedVariables false
set_option linter.unusedSimpArgs false

theorem way_is (l : List S58) (ht : isTree (l.map tr)) : ∀ i : Nat, i < l.length → Ev (fun k => augurref14_Way.f k l (i : Int)) (zs (wy (l.map tr) i)) := by
  intro i
  have hlen : l.length ≤ 32 := by have := ht.1.2.1; simpa using this
  induction i using Nat.strongRecOn with
  | ind i ih =>
    intro hi
    by_cases h0 : i = 0
    · subst h0
      refine Ev.step (f := fun k => some [0]) (fun k => ?_) ?_
      · simp only [augurref14_Way.f]
        rw [if_pos (by omega)]
      · rw [wy]; exact Ev.now (r := zs [0])
    · have t1 := (ht.2 i (by omega) (by simpa using hi)).1
      have t2 := (ht.2 i (by omega) (by simpa using hi)).2.1
      have hp : (rd_T58 l (i : Int)).f0 = (((pa (l.map tr) i).toNat : Nat) : Int) := by rw [← pa_map]; omega
      have ihp := ih (pa (l.map tr) i).toNat (by omega) (by omega)
      rw [wy_step (by omega) t1 t2]
      have hb : Ev (fun k => (augurref14_Way.f k l (((pa (l.map tr) i).toNat : Nat) : Int)).bind fun t => if t.length < 17592186044416 then some (t ++ [(i : Int)]) else none) (zs (wy (l.map tr) (pa (l.map tr) i).toNat ++ [i])) := by
        refine Ev.bind (f := fun _ t => if t.length < 17592186044416 then some (t ++ [(i : Int)]) else none) ihp (Ev.congr (fun k => ?_) (Ev.now _))
        have hwl := wy_len (l.map tr) (pa (l.map tr) i).toNat
        have hwz : (zs (wy (l.map tr) (pa (l.map tr) i).toNat)).length ≤ i := by rw [zs, List.length_map]; omega
        rw [if_pos (by omega)]
        simp [zs]
      refine Ev.step (fun k => ?_) hb
      simp only [augurref14_Way.f]
      rw [if_neg (by omega), if_pos (by omega), if_pos (by omega), hp]
theorem leaf_loop (l : List S58) (hl : l.length ≤ 32) (i : Nat) : ∀ n j : Nat, j + n = l.length → Ev (fun k => augurref14_Leaf.l0 k l (i : Int) (j : Int)) ((List.range' j n).all fun q => pa (l.map tr) q != (i : Int)) := by
  intro n
  induction n with
  | zero =>
    intro j hj
    refine Ev.step (f := fun _ => some true) (fun k => ?_) (Ev.now _)
    simp only [augurref14_Leaf.l0]
    rw [if_neg (by omega)]
  | succ n ih =>
    intro j hj
    rw [List.range'_succ, List.all_cons, pa_map]
    by_cases h : (rd_T58 l (j : Int)).f0 = (i : Int)
    · refine Ev.step (f := fun _ => some false) (fun k => ?_) (by simp [h]; exact Ev.now false)
      simp only [augurref14_Leaf.l0]
      rw [if_pos (by omega), if_pos (by omega), if_pos h]
    · refine Ev.step (f := fun k => augurref14_Leaf.l0 k l (i : Int) ((j + 1 : Nat) : Int)) (fun k => ?_) (by
        have e : ((rd_T58 l (j : Int)).f0 != (i : Int)) = true := by simpa using h
        rw [e, Bool.true_and]
        exact ih (j + 1) (by omega))
      simp only [augurref14_Leaf.l0]
      rw [if_pos (by omega), if_pos (by omega), if_neg h, w64 (by omega) (by omega)]
      rfl
theorem leaf_is (l : List S58) (hl : l.length ≤ 32) (i : Nat) : Ev (fun k => augurref14_Leaf.f k l (i : Int)) (leafB (l.map tr) i) := by
  have h := leaf_loop l hl i l.length 0 (by omega)
  have e : leafB (l.map tr) i = ((List.range' 0 l.length).all fun q => pa (l.map tr) q != (i : Int)) := by
    simp only [leafB, List.length_map, List.range_eq_range']
  rw [e]
  exact h
def pths (l : List N3) (i : Nat) : List (List Int) := (lvsTo l i).map fun i => zs (wy l i)
theorem paths_loop (l : List S58) (ht : isTree (l.map tr)) : ∀ n i : Nat, i + n = l.length → Ev (fun k => augurref14_Paths.l0 k l (pths (l.map tr) i) (i : Int)) (pths (l.map tr) l.length) := by
  have hlen : l.length ≤ 32 := by have := ht.1.2.1; simpa using this
  intro n
  induction n with
  | zero =>
    intro i hi
    obtain rfl : i = l.length := by omega
    refine Ev.step (f := fun _ => some (pths (l.map tr) l.length)) (fun k => ?_) (Ev.now _)
    simp only [augurref14_Paths.l0]
    rw [if_neg (by omega)]
  | succ n ih =>
    intro i hi
    have hnx := ih (i + 1) (by omega)
    have hpl : (pths (l.map tr) i).length ≤ 32 := by
      have := lvsTo_len (l.map tr) i
      simp only [pths, List.length_map]
      omega
    refine Ev.step (f := fun k => (augurref14_Leaf.f k l (i : Int)).bind fun t142 => (if t142 = true then ((augurref14_Way.f k l (i : Int)).bind fun t143 => (if (pths (l.map tr) i).length < 5864062014805 then (augurref14_Paths.l0 k l ((pths (l.map tr) i) ++ [t143]) (wrap64 ((i : Int) + 1))) else (none))) else (augurref14_Paths.l0 k l (pths (l.map tr) i) (wrap64 ((i : Int) + 1))))) (fun k => ?_) ?_
    · simp only [augurref14_Paths.l0]
      rw [if_pos (by omega)]
    · refine Ev.bind (leaf_is l hlen i) ?_
      rw [w64 (by omega) (by omega)]
      cases hb : leafB (l.map tr) i
      · have e : pths (l.map tr) (i + 1) = pths (l.map tr) i := by unfold pths; rw [lvsTo_no hb]
        rw [e] at hnx
        simpa using hnx
      · have e : pths (l.map tr) (i + 1) = pths (l.map tr) i ++ [zs (wy (l.map tr) i)] := by unfold pths; rw [lvsTo_yes hb]; simp
        rw [e] at hnx
        simp only [if_true]
        refine Ev.bind (way_is l ht i (by omega)) ?_
        simp only [if_pos (show (pths (l.map tr) i).length < 5864062014805 by omega)]
        exact hnx
theorem paths_is (l : List S58) : ∃ k, augurref14_Paths.f k l = some (pathsL (l.map tr)) := by
  obtain ⟨k0, hk0⟩ := ref_check l
  refine Ev.rounds ?_
  refine Ev.bind (Ev.of (augurref14_Check.mono _) hk0) ?_
  by_cases ht : isTree (l.map tr)
  · rw [chk_ok ht, pathsL_ok ht]
    have h := paths_loop l ht l.length 0 (by omega)
    have e : pths (l.map tr) l.length = (lvs (l.map tr)).map fun i => zs (wy (l.map tr) i) := by unfold pths lvs; rw [List.length_map]
    rw [e, show pths (l.map tr) 0 = [] by simp [pths, lvsTo]] at h
    simpa using h
  · rw [chk_no ht, pathsL_no ht]
    simpa using Ev.now (r := ([] : List (List Int)))
theorem eqi_loop (a b : List Int) (hab : a.length = b.length) (hl : a.length ≤ 9223372036854775807) : ∀ n i : Nat, i + n = a.length → a.take i = b.take i → Ev (fun k => augurref00_EqInts.l0 k a b (i : Int)) (decide (a = b)) := by
  intro n
  induction n with
  | zero =>
    intro i hi ht
    rw [List.take_of_length_le (by omega), List.take_of_length_le (by omega)] at ht
    subst ht
    refine Ev.step (f := fun _ => some true) (fun k => ?_) (by simpa using Ev.now true)
    simp only [augurref00_EqInts.l0]
    rw [if_neg (by omega)]
  | succ n ih =>
    intro i hi ht
    have hra : rd a (i : Int) = a[i]'(by omega) := by simp [rd, List.getD_eq_getElem?_getD, List.getElem?_eq_getElem (show i < a.length by omega)]
    have hrb : rd b (i : Int) = b[i]'(by omega) := by simp [rd, List.getD_eq_getElem?_getD, List.getElem?_eq_getElem (show i < b.length by omega)]
    by_cases h : rd a (i : Int) = rd b (i : Int)
    · refine Ev.step (f := fun k => augurref00_EqInts.l0 k a b ((i + 1 : Nat) : Int)) (fun k => ?_) (ih (i + 1) (by omega) (by
        rw [List.take_succ_eq_append_getElem (by omega), List.take_succ_eq_append_getElem (by omega), ht, ← hra, ← hrb, h]))
      simp only [augurref00_EqInts.l0]
      rw [if_pos (by omega), if_pos (by omega), if_pos (by omega), if_pos h, w64 (by omega) (by omega)]
      rfl
    · refine Ev.step (f := fun _ => some false) (fun k => ?_) (by
        have : ¬ a = b := fun e => h (by rw [e])
        simpa [this] using Ev.now false)
      simp only [augurref00_EqInts.l0]
      rw [if_pos (by omega), if_pos (by omega), if_pos (by omega), if_neg h]
theorem eqi_is (a b : List Int) (hl : a.length ≤ 9223372036854775807) : ∃ k, augurref00_EqInts.f k a b = some (decide (a = b)) := by
  by_cases h : a.length = b.length
  · obtain ⟨k, hk⟩ := (eqi_loop a b h hl a.length 0 (by omega) (by simp)).rounds
    refine ⟨k, ?_⟩
    unfold augurref00_EqInts.f
    rw [if_pos (by omega)]
    exact hk
  · refine ⟨0, ?_⟩
    unfold augurref00_EqInts.f
    rw [if_neg (by omega)]
    have : ¬ a = b := fun e => h (by rw [e])
    simp [this]
#print axioms paths_is
#print axioms eqi_is
end Go.Proofs.Ytmekcllgofeenaa.Tp
