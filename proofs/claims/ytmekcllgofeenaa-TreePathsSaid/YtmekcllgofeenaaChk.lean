/- The program's Check of a tree: its contract. Conditions: none. -/
import Derived.Test.YtmekcllgofeenaaN3
import Derived.Outline
import Derived.WalkLawsBesides
namespace Go.Proofs.Ytmekcllgofeenaa.Chk
open Go.RowKit Go.Proofs.YtmekcllgofeenaaW.PrintWords Go.Proofs.YtmekcllgofeenaaW.PrintLast Go.Proofs.YtmekcllgofeenaaW.PrintMore
open Go.Proofs.Ytmekcllgofeenaa.MapsV Go.Proofs.Ytmekcllgofeenaa.N3
set_option linter.unusedVariables false
set_option linter.unusedSimpArgs false

def Good (l : List N3) : Prop := ∀ i, i < l.length → (Lit.int .i64 (pa l i)).wf = true ∧ (Lit.int .i64 (tok l i)).wf = true

set_option maxHeartbeats 2000000 in
theorem head_no (A : Option Addr) (c : Nat) (l : List N3) (w : World) (hC : Kd.C kN w A l.length l) (hc : l.length ≤ c) (h : ¬ okHead l) :
    Calls Try.prog 18 #[.slice A l.length c] w fun e w' => e = .returned (.int .i64 140) ∧ Below w.heap.size w w' := by
  by_cases c1 : l.length < 1
  · have d1 : ((l.length : Int)) < 1 := by omega
    clear h c1
    have HC := Aside0.mk hC
    clear hC
    go_enter Try.func18, Try.ntmps18
    go_wp2
    go_ret
    exact ⟨rfl, Below.refl _ _⟩
  · by_cases c2 : 32 < l.length
    · have d1 : 1 ≤ ((l.length : Int)) := by omega
      have d2 : 32 < ((l.length : Int)) := by omega
      clear h c1 c2
      have HC := Aside0.mk hC
      clear hC
      go_enter Try.func18, Try.ntmps18
      go_wp2
      go_ret
      exact ⟨rfl, Below.refl _ _⟩
    · obtain ⟨ad, rfl, a0, a1, a2⟩ := at_N hC 0 (by omega)
      have HC := Aside0.mk hC
      clear hC
      have d1 : 1 ≤ ((l.length : Int)) := by omega
      have d2 : ((l.length : Int)) ≤ 32 := by omega
      have d3 : 1 ≤ l.length := by omega
      rw [show 0 * 3 = 0 from rfl, Addr.add_zero'] at a0 a1 a2
      by_cases c3 : pa l 0 = -1
      · have d4 : ¬ dep l 0 = 0 := fun e => h ⟨by omega, by omega, c3, e⟩
        clear h
        have e3 : (pa l 0 != -1) = false := bne_eq_false_iff_eq.2 c3
        have e4 : (dep l 0 != 0) = true := bne_iff_ne.2 d4
        clear c1 c2 c3 d4
        go_enter Try.func18, Try.ntmps18
        go_wp2
        go_ret
        exact ⟨rfl, Below.refl _ _⟩
      · have e3 : (pa l 0 != -1) = true := bne_iff_ne.2 c3
        clear h c1 c2 c3
        go_enter Try.func18, Try.ntmps18
        go_wp2
        go_ret
        exact ⟨rfl, Below.refl _ _⟩

theorem below_alloc_in {B : Nat} {w wr : World} (h : Below B w wr) (hB : B ≤ wr.heap.size) : ∀ o, Below B w (wr.alloc o) := fun o => h.alloc hB o

def ChkRel (l : List N3) (w : World) (i : Nat) (wr : World) : Prop :=
  (∀ j, 1 ≤ j → j < i → okAt l j) ∧ HasMap Try.prog 65 eB eI wr w.heap.size (N3.seen l i) ∧ Below w.heap.size w wr ∧ w.heap.size < wr.heap.size

set_option maxHeartbeats 4000000 in
set_option maxRecDepth 100000 in
theorem body (ad : Addr) (c : Nat) (l : List N3) (w : World) (hC : Kd.C kN w (some ad) l.length l) (hc : l.length ≤ c) (hG : Good l) (h : okHead l) :
    Calls Try.prog 18 #[.slice (some ad) l.length c] w fun e w' => e = .returned (.int .i64 (chk l)) ∧ Below w.heap.size w w' := by
  have HC := Aside0.mk hC
  have HG := Aside0.mk hG
  have HH := Aside0.mk h
  obtain ⟨ad', e', a0, a1, a2⟩ := at_N hC 0 (by have := h.1; omega)
  cases e'
  rw [show 0 * 3 = 0 from rfl, Addr.add_zero'] at a0 a1 a2
  have e3 : (pa l 0 != -1) = false := bne_eq_false_iff_eq.2 h.2.2.1
  have e4 : (dep l 0 != 0) = false := bne_eq_false_iff_eq.2 h.2.2.2
  have d1 : 1 ≤ ((l.length : Int)) := by have := h.1; omega
  have d2 : ((l.length : Int)) ≤ 32 := by have := h.2.1; omega
  have d3 : 1 ≤ l.length := by omega
  clear hC hG h
  have hmm := @run_makeMap Try.prog
  go_enter Try.func18, Try.ntmps18
  go_wp2
  go_loopg [34] l.length (fun g v34 wr => ∃ i : Nat, v34 = .int .i64 i ∧ i ≤ l.length ∧ l.length ≤ i + g ∧ Aside0 (ChkRel l w i wr))
  case atStart =>
    exact ⟨0, rfl, by omega, by omega, ⟨⟨fun j h1 h2 => by omega, HasMap.made _ _ _ _ _, (Below.refl _ _).alloc (Nat.le_refl _) _, by simp⟩⟩⟩
  case round =>
    clear a0 a1 a2 e3 e4
    obtain ⟨i, rfl, hi, hg, HR⟩ := hrel
    by_cases hlt : i < l.length
    · obtain ⟨ad', e', a0, a1, a2⟩ := at_N HC.out i hlt
      cases e'
      replace a0 := (HR.out.2.2.1.cell (World.block_lt_of_cell? w _ a0)).trans a0
      replace a1 := (HR.out.2.2.1.cell (World.block_lt_of_cell? w _ a1)).trans a1
      replace a2 := (HR.out.2.2.1.cell (World.block_lt_of_cell? w _ a2)).trans a2
      have hbw : w.heap.size < wr.heap.size := HR.out.2.2.2
      have HB := Aside0.mk (below_alloc_in HR.out.2.2.1 (Nat.le_of_lt HR.out.2.2.2))
      by_cases h0 : i = 0
      · have e0 : ((i : Int) == 0) = true := by simp; exact h0
        have H0 := Aside0.mk h0
        clear h0
        go_wp2
        go_roundg (l.length - 1)
        case measure => have := H0.out; omega
        case rel =>
          obtain rfl := H0.out
          refine ⟨1, rfl, by omega, by omega, ⟨⟨fun j h1 h2 => by omega, ?_, HB.out _, by simp; omega⟩⟩⟩
          exact HR.out.2.1.alloc _
      · have e0 : ((i : Int) == 0) = false := by simp; exact h0
        have hi1 : 1 ≤ i := by omega
        have hii : 0 ≤ (i : Int) - 1 := by omega
        by_cases c1 : pa l i < 0
        · have hno : ¬ isTree l := fun ht => by have := (ht.2 i hi1 hlt).1; omega
          have e1 : decide (pa l i < 0) = true := decide_eq_true c1
          clear c1
          go_wp2
          go_quiet (fail)
          go_wp2
          go_ret
          exact ⟨by rw [chk_no hno]; rfl, pw_below_drewN (HB.out _) _⟩
        · have e1 : decide (pa l i < 0) = false := decide_eq_false c1
          by_cases c2 : (i : Int) ≤ pa l i
          · have hno : ¬ isTree l := fun ht => by have := (ht.2 i hi1 hlt).2.1; omega
            have e2 : decide ((i : Int) ≤ pa l i) = true := decide_eq_true c2
            clear c1 c2
            go_wp2
            go_quiet (fail)
            go_wp2
            go_ret
            exact ⟨by rw [chk_no hno]; rfl, pw_below_drewN (HB.out _) _⟩
          · have e2 : decide ((i : Int) ≤ pa l i) = false := decide_eq_false c2
            by_cases c3 : tok l i < 1
            · have hno : ¬ isTree l := fun ht => by have := (ht.2 i hi1 hlt).2.2.1; omega
              have e3 : decide (tok l i < 1) = true := decide_eq_true c3
              clear c1 c2 c3
              go_wp2
              go_quiet (fail)
              go_wp2
              go_ret
              exact ⟨by rw [chk_no hno]; rfl, pw_below_drewN (HB.out _) _⟩
            · have e3 : decide (tok l i < 1) = false := decide_eq_false c3
              obtain ⟨ad', e', b0, b1, b2⟩ := at_N HC.out (pa l i).toNat (by omega)
              cases e'
              replace b2 := fun o => ((HB.out o).cell (World.block_lt_of_cell? w _ b2)).trans b2
              obtain ⟨ad', e', q0, q1, q2⟩ := at_N HC.out (i - 1) (by omega)
              cases e'
              replace q2 := fun o => ((HB.out o).cell (World.block_lt_of_cell? w _ q2)).trans q2
              have g1 : 0 ≤ pa l i := by omega
              have g2 : pa l i < (l.length : Int) := by omega
              clear b0 b1 q0 q1 c1
              by_cases c4 : dep l i = wrap64 (dep l (pa l i).toNat + 1)
              · have e4 : (dep l i != wrap64 (dep l (pa l i).toNat + 1)) = false := bne_eq_false_iff_eq.2 c4
                by_cases c5 : dep l i < dep l (i - 1)
                · have hno : ¬ isTree l := fun ht => by have := (ht.2 i hi1 hlt).2.2.2.2.1; omega
                  have e5 : decide (dep l i < dep l (i - 1)) = true := decide_eq_true c5
                  clear c2 c3 c4 c5
                  go_wp2
                  go_quiet (fail)
                  go_wp2
                  go_ret
                  exact ⟨by rw [chk_no hno]; rfl, pw_below_drewN (HB.out _) _⟩
                · have e5 : decide (dep l i < dep l (i - 1)) = false := decide_eq_false c5
                  have H15 : Aside0 (0 ≤ pa l i ∧ pa l i < i ∧ 1 ≤ tok l i ∧ dep l i = wrap64 (dep l (pa l i).toNat + 1) ∧ dep l (i - 1) ≤ dep l i) := ⟨⟨g1, by omega, by omega, c4, by omega⟩⟩
                  clear c2 c3 c4 c5
                  have HK := key65 (HG.out i hlt).1 (HG.out i hlt).2
                  by_cases c6 : (lget (N3.seen l i) (pa l i, tok l i)).isSome = true
                  · have hno : ¬ isTree l := fun ht => by
                      obtain ⟨k, k1, k2, k3, k4⟩ := seen_get.1 c6
                      exact (ht.2 i hi1 hlt).2.2.2.2.2 k k1 k2 ⟨k3, k4⟩
                    have HK' := Aside0.mk HK
                    clear HK
                    go_wp2
                    go_quiet (fail)
                    go_wp2_with (at_lookup; refine wpList_look_ok _ rfl _ _ 63 3 rfl law65 Try.underlying63 (.int .i64 0) (zero3 _) eB_inj rfl (((HR.out.2.1.alloc _).drewN _).alloc _) (pa l i, tok l i) rfl HK'.out ?_)
                    go_ret
                    exact ⟨by rw [chk_no hno]; rfl, Below.alloc (pw_below_drewN (HB.out _) _) (by simp; omega) _⟩
                  · have e6 : (lget (N3.seen l i) (pa l i, tok l i)).isSome = false := by simpa using c6
                    have H6 := Aside0.mk c6
                    have HK' := Aside0.mk HK
                    clear HK c6
                    go_wp2
                    go_quiet (fail)
                    go_wp2_with (first | (at_lookup; refine wpList_look_ok _ rfl _ _ 63 3 rfl law65 Try.underlying63 (.int .i64 0) (zero3 _) eB_inj rfl (((HR.out.2.1.alloc _).drewN _).alloc _) (pa l i, tok l i) rfl HK'.out ?_) | (at_mapUpdate; refine wpList_store _ rfl _ _ _ 63 3 rfl law65 Try.underlying63 eB_inj rfl (((HR.out.2.1.alloc _).drewN _).alloc _) (pa l i, tok l i) rfl HK'.out i rfl ?_; intro w1 hm1 ht1))
                    go_roundg (l.length - (i + 1))
                    case measure => omega
                    case rel =>
                      have hnew : ∀ k, 1 ≤ k → k < i → ¬ (pa l k = pa l i ∧ tok l k = tok l i) := fun k k1 k2 k3 => H6.out (seen_get.2 ⟨k, k1, k2, k3⟩)
                      have hg1 := ht1.grown
                      have hsz := hg1.size
                      refine ⟨i + 1, by first | rfl | (simp; done), by omega, by omega, ⟨⟨fun j h1 h2 => ?_, ?_, ?_, ?_⟩⟩⟩
                      · by_cases hj : j < i
                        · exact HR.out.1 j h1 hj
                        · obtain rfl : j = i := by omega
                          obtain ⟨k1, k2, k3, k4, k5⟩ := H15.out
                          exact ⟨k1, k2, k3, k4, k5, hnew⟩
                      · rw [← seen_put hi1 hnew]
                        exact hm1
                      · exact (Below.alloc (pw_below_drewN (HB.out _) _) (by simp; omega) _).grown hg1 (by simp; omega) (fun k hk => by cases hk; exact Nat.le_refl _)
                      · simp at hsz
                        omega
              · have hno : ¬ isTree l := fun ht => by exact c4 (ht.2 i hi1 hlt).2.2.2.1
                have e4 : (dep l i != wrap64 (dep l (pa l i).toNat + 1)) = true := bne_iff_ne.2 c4
                clear c2 c3 c4
                go_wp2
                go_quiet (fail)
                go_wp2
                go_ret
                exact ⟨by rw [chk_no hno]; rfl, pw_below_drewN (HB.out _) _⟩
    · obtain rfl : i = l.length := by omega
      have hyes : isTree l := ⟨HH.out, HR.out.1⟩
      go_wp2
      go_ret
      exact ⟨by rw [chk_ok hyes]; rfl, HR.out.2.2.1⟩

/-- The contract: every slice of nodes. -/
theorem calls (A : Option Addr) (c : Nat) (l : List N3) (w : World) (hC : Kd.C kN w A l.length l) (hc : l.length ≤ c) (hG : Good l) :
    Calls Try.prog 18 #[.slice A l.length c] w fun e w' => e = .returned (.int .i64 (chk l)) ∧ Below w.heap.size w w' := by
  by_cases h : okHead l
  · obtain ⟨ad, rfl, _⟩ := at_N hC 0 (by have := h.1; omega)
    exact body ad c l w hC hc hG h
  · rw [chk_no (fun ht => h ht.1)]
    exact head_no A c l w hC hc h
#print axioms calls
end Go.Proofs.Ytmekcllgofeenaa.Chk
