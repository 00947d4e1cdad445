/- The program's Above of a tree. Conditions: none. -/
import Derived.Test.YtmekcllgofeenaaWith
import Derived.Test.YtmekcllgofeenaaChk
import Derived.Deep.OwnRows
namespace Go.Proofs.Ytmekcllgofeenaa.Abv
open Go.RowKit Go.Proofs.YtmekcllgofeenaaW.PrintWords Go.Proofs.YtmekcllgofeenaaW.PrintLast Go.Proofs.YtmekcllgofeenaaW.PrintMore
open Go.Proofs.Ytmekcllgofeenaa.N3
set_option linter.unusedVariables false
set_option linter.unusedSimpArgs false

/-! ### rows of numbers, two ways -/
theorem own_of_R {k : IntKind} {e base : Nat} {w : World} {ok : Nat → Prop} {v : Value} {xs : List Int} (h : Kd.R (Kd.int k) e w base ok v xs) : w.ownsRow base e 1 v xs.length (nums k xs) := by
  obtain ⟨_, inner, ho, hr⟩ := h
  have : inner = nums k xs := by
    apply List.ext_getElem?
    intro i
    rcases Nat.lt_or_ge i xs.length with hi | hi
    · have h1 := hr.2 i _ (List.getElem?_eq_getElem hi)
      have h2 : (inner.drop (i * 1)).take 1 = [.int k xs[i]] := h1
      have h3 := congrArg (fun l => l[0]?) h2
      simp only [Nat.mul_one, List.getElem?_take, List.getElem?_drop, Nat.add_zero] at h3
      rw [if_pos (by omega)] at h3
      rw [h3]
      simp [nums, List.getElem?_eq_getElem hi]
    · have h1 : inner.length ≤ i := by rw [hr.1]; show xs.length * 1 ≤ i; omega
      rw [List.getElem?_eq_none h1]
      simp [nums, List.getElem?_eq_none hi]
  subst this
  exact ho
theorem R_of_own {k : IntKind} {e base : Nat} {w : World} {v : Value} {xs : List Int} (h : w.ownsRow base e 1 v xs.length (nums k xs)) : Kd.R (Kd.int k) e w base (fun _ => True) v xs := by
  refine ⟨fun _ _ => trivial, nums k xs, h, by simp [nums, Kd.int, Kd.scalar], fun j p hj => ?_⟩
  show ((nums k xs).drop (j * 1)).take 1 = [.int k p]
  have hjl : j < xs.length := (List.getElem?_eq_some_iff.1 hj).1
  rw [Nat.mul_one, List.drop_eq_getElem_cons (by simp [nums]; exact hjl)]
  have hp := (List.getElem?_eq_some_iff.1 hj).2
  simp [nums, hp]

/-! ### masks -/
def am (l : List N3) : Nat → Nat
  | 0 => 1
  | i + 1 => am l (min (pa l (i + 1)).toNat i) ||| 2 ^ (i + 1)
termination_by i => i
decreasing_by omega
theorem am_zero (l : List N3) : am l 0 = 1 := by rw [am]
theorem am_step {l : List N3} {i : Nat} (h1 : 1 ≤ i) (h2 : 0 ≤ pa l i) (h3 : pa l i < i) : am l i = am l (pa l i).toNat ||| 2 ^ i := by
  obtain ⟨j, rfl⟩ : ∃ j, i = j + 1 := ⟨i - 1, by omega⟩
  rw [am, Nat.min_eq_left (by omega)]
theorem am_lt (l : List N3) : ∀ i, am l i < 2 ^ (i + 1) := by
  intro i
  induction i using Nat.strongRecOn with
  | ind i ih =>
    cases i with
    | zero => rw [am]; decide
    | succ j =>
      rw [am]
      have h1 := ih (min (pa l (j + 1)).toNat j) (by omega)
      have h2 : 2 ^ (min (pa l (j + 1)).toNat j + 1) ≤ 2 ^ (j + 1 + 1) := Nat.pow_le_pow_right (by omega) (by omega)
      exact Nat.or_lt_two_pow (by omega) (Nat.pow_lt_pow_right (by omega) (by omega))
theorem am_u64 (l : List N3) {i : Nat} (hi : i < 32) : am l i < 18446744073709551616 := by
  have h := am_lt l i
  have h2 := With.pow_lt (i := i + 1) (by omega)
  omega
/-- The first i sets, zeros behind. -/
def xsA (l : List N3) (n i : Nat) : List Int := (List.range n).map fun j => if j < i then (am l j : Int) else 0
theorem xsA_len (l : List N3) (n i : Nat) : (xsA l n i).length = n := by simp [xsA]
theorem xsA_rd {l : List N3} {n i j : Nat} (hj : j < n) : rd (xsA l n i) (j : Int) = if j < i then (am l j : Int) else 0 := by
  simp [rd, xsA, List.getD_eq_getElem?_getD, hj]
theorem xsA_zero (l : List N3) (n : Nat) : xsA l n 0 = List.replicate n 0 := by
  apply List.ext_getElem?
  intro j
  simp [xsA, List.getElem?_replicate]
  by_cases h : j < n
  · simp [h]
  · simp [h]
theorem xsA_set {l : List N3} {n i : Nat} (hi : i < n) (y : Int) : ((xsA l n i).set i y).set i (am l i : Int) = xsA l n (i + 1) := by
  apply List.ext_getElem?
  intro j
  rw [List.set_set, List.getElem?_set]
  by_cases hij : i = j
  · subst hij
    simp [xsA, hi]
  · rw [if_neg hij]
    simp only [xsA, List.getElem?_map]
    by_cases hjn : j < n
    · rw [List.getElem?_range hjn]
      simp only [Option.map_some]
      by_cases h1 : j < i
      · rw [if_pos h1, if_pos (by omega)]
      · rw [if_neg h1, if_neg (by omega)]
    · rw [List.getElem?_eq_none (by simp; omega)]
      rfl

open Classical in
noncomputable def abS (l : List N3) : List Int × Int := if isTree l then (xsA l l.length l.length, 0) else ([], 140)
theorem ab_no {l : List N3} (h : ¬ isTree l) : abS l = ([], 140) := by unfold abS; rw [if_neg h]
theorem ab_ok {l : List N3} (h : isTree l) : abS l = (xsA l l.length l.length, 0) := by unfold abS; rw [if_pos h]
def AbPost (w : World) (r : List Int × Int) (e : Ending) (w' : World) : Prop := ∃ v, e = .returned (.tuple #[v, .int .i64 r.2]) ∧ Kd.R (Kd.int .u64) 56 w' w.heap.size (fun _ => True) v r.1 ∧ Below w.heap.size w w'

theorem info56 : (Try.prog.info? 56).map (fun i => (i.zero, i.size, i.bytes)) = some (some (.agg #[.int .u64 0]), 1, 8) := by kernel_rfl

def AbRel (l : List N3) (w : World) (g i : Nat) (wr : World) : Prop :=
  wr.ownsRow w.heap.size 56 1 (.slice (some ⟨g, 0, none⟩) l.length l.length) l.length (nums .u64 (xsA l l.length i)) ∧ Below w.heap.size w wr ∧ w.heap.size ≤ g ∧ g < wr.heap.size

/-- Behind a call that makes memory alone, and a store at place i. -/
theorem ab_step {l : List N3} {w W w3 : World} {g i : Nat} {ys : List Int} (hO : W.ownsRow w.heap.size 56 1 (.slice (some ⟨g, 0, none⟩) l.length l.length) l.length (nums .u64 ys)) (hB : Below w.heap.size w W) (h1 : w.heap.size ≤ g) (h2 : g < W.heap.size)
    (hb : Below W.heap.size W w3) (y : Int) (he : ys.set i y = xsA l l.length (i + 1)) : AbRel l w g (i + 1) (w3.setCell ⟨g, i, none⟩ (.int .u64 y)) := by
  have h3 := own_store (pw_own_below hO hb) (i : Int) y
  rw [Int.toNat_natCast, he] at h3
  exact ⟨h3.1, (below_then hB hB.size hb).setCell (by exact h1) _, h1, by have := hb.size; simp [World.setCell]; omega⟩

set_option maxHeartbeats 4000000 in
set_option maxRecDepth 100000 in
theorem above (A : Option Addr) (c : Nat) (l : List N3) (w : World) (hC : Kd.C kN w A l.length l) (hc : l.length ≤ c) (hg : Chk.Good l) :
    Calls Try.prog 21 #[.slice A l.length c] w (AbPost w (abS l)) := by
  have hcall := Chk.calls A c l w hC hc hg
  by_cases ht : isTree l
  · rw [chk_ok ht] at hcall
    have hl1 : 1 ≤ l.length := ht.1.1
    have hl2 : l.length ≤ 32 := ht.1.2.1
    obtain ⟨ad, rfl, _⟩ := at_N hC 0 (by omega)
    obtain ⟨i0, hi0, hz0, hz1, hz2⟩ := info_parts info56
    have HI := Aside0.mk (And.intro hi0 (And.intro hz0 (And.intro hz1 hz2)))
    clear hi0 hz0 hz1 hz2
    have HC := Aside0.mk hC
    have HT := Aside0.mk ht
    have HCALL := Aside0.mk hcall
    clear hC hg ht hcall
    go_enter Try.func21, Try.ntmps21
    go_wp2_with fail
    refine HCALL.out.mono ?_
    rintro e w1 ⟨rfl, hb⟩
    have HB := Aside0.mk hb
    clear hb
    go_wp2_with (at_make; refine wpList_make_full _ rfl _ _ 40 rfl w.heap.size 56 i0 (.agg #[.int .u64 0]) 1 Try.underlying40 HI.out.1 HI.out.2.1 HI.out.2.2.1 .i64 .i64 _ _ l.length rfl rfl rfl rfl ?_ ?_ ?_ ?_; (rw [HI.out.2.2.2]; omega); (simp only [maxLen]; omega); (exact HB.out.size); intro w2 hown hgrow; have HO := Aside0.mk hown; have HG2 := Aside0.mk hgrow; clear hown hgrow)
    go_loopg [18] l.length (fun g v18 wr => ∃ i : Nat, v18 = .int .i64 i ∧ i ≤ l.length ∧ l.length ≤ i + g ∧ Aside0 (AbRel l w w1.heap.size i wr))
    case atStart =>
      refine ⟨0, rfl, by omega, by omega, ⟨⟨?_, HB.out.grown HG2.out HB.out.size (fun k hk => by cases hk), HB.out.size, ?_⟩⟩⟩
      · have e1 : (madeCells (Value.agg #[.int .u64 0]).cells (l.length * 1)).toList = nums .u64 (List.replicate l.length 0) := by
          apply List.ext_getElem
          · simp [nums, madeCells]
          · intro i h1 h2
            simp [nums, madeCells, Nat.mod_one, Value.cells]
        rw [xsA_zero, ← e1]
        exact HO.out
      · rcases HO.out.2 with ⟨h, _⟩ | ⟨g, cap, cur, h, hb, hh, _⟩
        · cases h
        · have : w1.heap.size = g := by injection h with h; injection h with h; injection h with h
          subst this
          exact (Array.getElem?_eq_some_iff.1 hh).1
    case round =>
      obtain ⟨i, rfl, hi, hgk, HR⟩ := hrel
      by_cases hlt : i < l.length
      · obtain ⟨ad', e', a0, a1, a2⟩ := at_N HC.out i hlt
        cases e'
        replace a0 := (HR.out.2.1.cell (World.block_lt_of_cell? w _ a0)).trans a0
        replace a1 := (HR.out.2.1.cell (World.block_lt_of_cell? w _ a1)).trans a1
        replace a2 := (HR.out.2.1.cell (World.block_lt_of_cell? w _ a2)).trans a2
        have hgw : w1.heap.size < wr.heap.size := HR.out.2.2.2
        have hb0 : w.heap.size ≤ wr.heap.size := HR.out.2.1.size
        have ho : ∀ o, (wr.alloc o).ownsRow w.heap.size 56 1 (.slice (some ⟨w1.heap.size, 0, none⟩) l.length l.length) l.length (nums .u64 (xsA l l.length i)) := fun o => HR.out.1.alloc o
        have ci : ∀ o, (wr.alloc o).cell? ⟨w1.heap.size, i, none⟩ = some (.int .u64 0) := fun o => by
          have h := (own_at (ho o) (i : Int) (by omega) (by omega)).1
          rw [xsA_rd hlt, if_neg (by omega)] at h
          simpa using h
        have fi : ∀ o, (wr.alloc o).frozen? ⟨w1.heap.size, i, none⟩ = false := fun o => by
          have h := (own_at (ho o) (i : Int) (by omega) (by omega)).2
          simpa using h
        have HO2 := Aside0.mk ho
        clear ho
        by_cases h0 : i = 0
        · have e0 : decide (0 < (i : Int)) = false := decide_eq_false (by omega)
          have e0n : decide (0 < i) = false := decide_eq_false (by omega)
          have H0 := Aside0.mk h0
          clear h0
          go_wp2_with fail
          have hw : ∀ wx, Calls Try.prog 34 #[.agg #[.int .u64 0], .int .i64 i] wx fun e w' => e = .returned (.agg #[.int .u64 ((0 ||| 2 ^ i : Nat) : Int)]) ∧ Below wx.heap.size wx w' := fun wx => With.with_ 0 i wx (by omega) (by omega)
          refine (hw _).mono ?_
          rintro e w3 ⟨rfl, hb3⟩
          have c3 := hb3.cell (p := ⟨w1.heap.size, i, none⟩) (by simp; omega)
          have f3 := hb3.frozen (p := ⟨w1.heap.size, i, none⟩) (by simp; omega)
          have HB3 := Aside0.mk hb3
          clear hb3 hw
          go_wp2_with fail
          go_roundg (l.length - (i + 1))
          case measure => omega
          case rel =>
            refine ⟨i + 1, by first | rfl | (simp; done), by omega, by omega, ⟨ab_step (HO2.out _) (HR.out.2.1.alloc hb0 _) HR.out.2.2.1 (by simp; omega) HB3.out _ ?_⟩⟩
            obtain rfl := H0.out
            have := xsA_set (l := l) hlt 0
            rw [am_zero] at this
            simpa using this
        · have e0 : decide (0 < (i : Int)) = true := decide_eq_true (by omega)
          have e0n : decide (0 < i) = true := decide_eq_true (by omega)
          have t1 := (HT.out.2 i (by omega) hlt).1
          have t2 := (HT.out.2 i (by omega) hlt).2.1
          have hst := am_step (by omega) t1 t2
          have hp64 := am_u64 l (i := (pa l i).toNat) (by omega)
          have cp : ∀ o, (wr.alloc o).cell? ⟨w1.heap.size, (pa l i).toNat, none⟩ = some (.int .u64 (am l (pa l i).toNat)) := fun o => by
            have h := (own_at (HO2.out o) (((pa l i).toNat : Nat) : Int) (by omega) (by omega)).1
            rw [xsA_rd (by omega), if_pos (by omega), Int.toNat_natCast] at h
            exact h
          have g2 : pa l i < (l.length : Int) := by omega
          have hs1 : ∀ o, ((wr.setCell ⟨w1.heap.size, i, none⟩ (.int .u64 (am l (pa l i).toNat))).alloc o).ownsRow w.heap.size 56 1 (.slice (some ⟨w1.heap.size, 0, none⟩) l.length l.length) l.length (nums .u64 ((xsA l l.length i).set i (am l (pa l i).toNat))) := fun o => by
            have h := (own_store HR.out.1 (i : Int) (am l (pa l i).toNat : Int)).1
            rw [Int.toNat_natCast] at h
            exact h.alloc o
          have cs1 : ∀ o, ((wr.setCell ⟨w1.heap.size, i, none⟩ (.int .u64 (am l (pa l i).toNat))).alloc o).cell? ⟨w1.heap.size, i, none⟩ = some (.int .u64 (am l (pa l i).toNat)) := fun o => by
            have h := (own_at (hs1 o) (i : Int) (by omega) (by omega)).1
            have e : rd ((xsA l l.length i).set i (am l (pa l i).toNat : Int)) (i : Int) = am l (pa l i).toNat := by
              simp [rd, List.getD_eq_getElem?_getD, xsA_len, hlt]
            rw [e, Int.toNat_natCast] at h
            exact h
          have fs1 : ∀ o, ((wr.setCell ⟨w1.heap.size, i, none⟩ (.int .u64 (am l (pa l i).toNat))).alloc o).frozen? ⟨w1.heap.size, i, none⟩ = false := fun o => by
            have h := (own_at (hs1 o) (i : Int) (by omega) (by omega)).2
            rw [Int.toNat_natCast] at h
            exact h
          have HS1 := Aside0.mk hs1
          clear hs1
          have HST := Aside0.mk hst
          have HP := Aside0.mk hp64
          clear h0 hst hp64
          go_wp2_with fail
          refine (With.with_ (am l (pa l i).toNat) i _ (by omega) HP.out).mono ?_
          rintro e w3 ⟨rfl, hb3⟩
          have c3 := hb3.cell (p := ⟨w1.heap.size, i, none⟩) (by simp; omega)
          have f3 := hb3.frozen (p := ⟨w1.heap.size, i, none⟩) (by simp; omega)
          have HB3 := Aside0.mk hb3
          clear hb3
          rw [← HST.out]
          go_wp2_with fail
          go_roundg (l.length - (i + 1))
          case measure => omega
          case rel =>
            exact ⟨i + 1, by first | rfl | (simp; done), by omega, by omega, ⟨ab_step (HS1.out _) ((HR.out.2.1.setCell (by exact HR.out.2.2.1) _).alloc (by simp [World.setCell]; omega) _) HR.out.2.2.1 (by simp [World.setCell]; omega) HB3.out _ (xsA_set hlt _)⟩⟩
      · obtain rfl : i = l.length := by omega
        go_wp2_with fail
        go_ret2
        rw [ab_ok HT.out]
        exact ⟨_, rfl, R_of_own (by rw [xsA_len]; exact HR.out.1), HR.out.2.1⟩
  · rw [chk_no ht] at hcall
    have HT := Aside0.mk ht
    have HCALL := Aside0.mk hcall
    clear hC hg ht hcall
    go_enter Try.func21, Try.ntmps21
    go_wp2_with fail
    refine HCALL.out.mono ?_
    rintro e w1 ⟨rfl, hb⟩
    have HB := Aside0.mk hb
    clear hb
    go_wp2_with fail
    go_ret2
    rw [ab_no HT.out]
    exact ⟨_, rfl, Kd.R_nil _ _ _ _ _, HB.out⟩
#print axioms above
end Go.Proofs.Ytmekcllgofeenaa.Abv
