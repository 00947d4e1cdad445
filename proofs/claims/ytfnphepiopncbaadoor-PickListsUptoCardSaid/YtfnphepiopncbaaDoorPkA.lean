/- fix.Shift and fix.Exp, draw.Mix, At and Below, over tables that are laid. Conditions: what the tables hold. bits.Mul64, draw.Below; fix.Clamp, fix.Div; pick.Check. Conditions: none. pick.scores. Conditions: none. Chances in memory; pick.total; the first two rules. Conditions: none. The last two rules. Conditions: what the tables hold. What may be chosen; the rules in their order. Conditions: none. -/
import Derived.Test.YtfnphepiopncbaaDoorPPickChoosesx1
import Derived.Test.YtfnphepiopncbaaDoorSortA
import Derived.Test.YtfnphepiopncbaaDoorMaps
import Derived.Test.YtfnphepiopncbaaDoorHeadC
import Derived.Test.YtfnphepiopncbaaDoorQTail
namespace Go.Proofs.YtfnphepiopncbaaDoor.Pick
open Go.RowKit Go.Proofs.YtfnphepiopncbaaDoorW.PrintWords Go.Proofs.YtfnphepiopncbaaDoorW.PrintLast Go.Proofs.YtfnphepiopncbaaDoorW.PrintMore
attribute [local go_sem] max2_int min2_int max_two min_two max_three min_three max_four min_four
set_option linter.unusedVariables false
set_option linter.unusedSimpArgs false

/-- The call answers v and writes nothing. -/
abbrev Says (v : Value) (w : World) (e : Ending) (w' : World) : Prop := e = .returned v ∧ ∃ q, w' = w.drewN q
/-- v over 2 to the s, to the nearest. -/
def shf (v : Int) (s : Nat) : Int := if s = 0 then v else v / 2 ^ s + v / 2 ^ (s - 1) % 2
theorem i64_and1 (n : Int) : bits .and .i64 n 1 = n % 2 := by
  have h1 : (BitVec.ofInt 64 1).toNat = 2 ^ 1 - 1 := by decide
  have key : (BitVec.ofInt 64 n &&& BitVec.ofInt 64 1).toNat = (n % ((2 ^ 64 : Nat) : Int)).toNat % 2 ^ 1 := by
    rw [BitVec.toNat_and, BitVec.toNat_ofInt, h1, Nat.and_two_pow_sub_one_eq_mod]
  show IntKind.i64.wrap ((BitVec.ofInt 64 n &&& BitVec.ofInt 64 1).toNat : Nat) = n % 2
  rw [key, IntKind.wrap_i64]
  omega
theorem half_range (v : Int) (s : Nat) (hs : 1 ≤ s) (hv : -9223372036854775808 ≤ v ∧ v ≤ 9223372036854775807) : -4611686018427387904 ≤ v / 2 ^ s ∧ v / 2 ^ s ≤ 4611686018427387903 := by
  obtain ⟨t, rfl⟩ : ∃ t, s = t + 1 := ⟨s - 1, by omega⟩
  have hp : (0 : Int) < 2 ^ t := Int.pow_pos (by decide)
  rw [Int.pow_succ]
  generalize (2 : Int) ^ t = x at *
  constructor
  · rw [Int.le_ediv_iff_mul_le (by omega)]
    omega
  · refine Int.le_of_lt_add_one ?_
    rw [Int.ediv_lt_iff_lt_mul (by omega)]
    omega
theorem shf_wrap (v : Int) (s t : Nat) (hs : t + 1 = s) (hv : -9223372036854775808 ≤ v ∧ v ≤ 9223372036854775807) : wrap64 (v / 2 ^ s + bits .and .i64 (v / 2 ^ t) 1) = shf v s := by
  unfold shf
  rw [if_neg (by omega), i64_and1, show s - 1 = t by omega]
  have h1 := half_range v s (by omega) hv
  have h2 := Int.emod_two_eq (v / 2 ^ t)
  unfold wrap64
  omega
theorem shift_zero (v : Int) (w : World) : Calls Tryd.prog 56 #[.int .i64 v, .int .i64 0] w (Says (.int .i64 v) w) := by
  go_enter Tryd.func56, Tryd.ntmps56
  go_wp2
  go_ret
  exact ⟨rfl, 0, rfl⟩
theorem shift_some (v : Int) (s t : Nat) (hs : t + 1 = s) (hs2 : s ≤ 62) (hv : -9223372036854775808 ≤ v ∧ v ≤ 9223372036854775807) (w : World) : Calls Tryd.prog 56 #[.int .i64 v, .int .i64 s] w (Says (.int .i64 (shf v s)) w) := by
  have c3 : decide ((s : Int) ≤ 0) = false := by simp; omega
  have h4 : (if (62 : Int) < (s : Int) then (62 : Int) else (s : Int)) = (s : Int) := by rw [if_neg (by omega)]
  have e5 : (s : Int) - 1 = (t : Int) := by omega
  have HV := Aside0.mk hv
  have HS := Aside0.mk hs
  have hs62 : (s : Int) ≤ 62 := by omega
  have ht62 : (t : Int) ≤ 62 := by omega
  clear hs hv
  go_enter Tryd.func56, Tryd.ntmps56
  go_wp2
  go_quiet (fail)
  go_wp2
  go_ret
  rw [← shf_wrap v s t HS.out HV.out]
  exact ⟨rfl, _, rfl⟩
theorem shift_calls (v : Int) (s : Nat) (hs2 : s ≤ 62) (hv : -9223372036854775808 ≤ v ∧ v ≤ 9223372036854775807) (w : World) : Calls Tryd.prog 56 #[.int .i64 v, .int .i64 s] w (Says (.int .i64 (shf v s)) w) := by
  cases s with
  | zero => exact shift_zero v w
  | succ t => exact shift_some v (t + 1) t rfl hs2 hv w

/-! ### the tables -/
def terms : List Int := [1073741824, -1073764153, 536691957, -175978408, 35472643]
structure Laid (w : World) : Prop where
  t : ∀ i, i < 5 → w.cell? ⟨1, i, none⟩ = some (.int .i64 (terms.getD i 0))
  s0 : w.cell? ⟨0, 0, none⟩ = some (.int .u64 30)
  f0 : w.cell? ⟨0, 1, none⟩ = some (.int .u64 13787848793156543929)
  s1 : w.cell? ⟨0, 2, none⟩ = some (.int .u64 27)
  f1 : w.cell? ⟨0, 3, none⟩ = some (.int .u64 10723151780598845931)
  s2 : w.cell? ⟨0, 4, none⟩ = some (.int .u64 31)
  f2 : w.cell? ⟨0, 5, none⟩ = some (.int .u64 1)
theorem Laid.move {w w' : World} (h : Laid w) (hb : Below w.heap.size w w') : Laid w' :=
  ⟨fun i hi => pw_cell_below hb (h.t i hi), pw_cell_below hb h.s0, pw_cell_below hb h.f0, pw_cell_below hb h.s1, pw_cell_below hb h.f1, pw_cell_below hb h.s2, pw_cell_below hb h.f2⟩
theorem Laid.drew {w : World} (h : Laid w) (q : Nat) : Laid (w.drewN q) := h.move (pw_below_drewN (Below.refl _ _) q)

/-! ### Exp -/
def polyAt (r : Int) : Nat → Int
  | 0 => 0
  | i + 1 => terms.getD (4 - i) 0 + shf (polyAt r i * r) 16
/-- e to the z, 16 bits behind the point. -/
def expf (z : Int) : Int := if z < -1048576 then 0 else
  let y := -(if 0 < z then 0 else z)
  shf (shf (polyAt (y % 45426) 5) 14) (y / 45426).toNat
theorem shf16 (x : Int) : shf x 16 = x / 65536 + x / 32768 % 2 := rfl
theorem shf14 (x : Int) : shf x 14 = x / 16384 + x / 8192 % 2 := rfl
theorem up_mul {p r b : Int} (h0 : 0 ≤ p) (h1 : p ≤ b) (r0 : 0 ≤ r) (r1 : r ≤ 45425) : 0 ≤ p * r ∧ p * r ≤ b * 45425 :=
  ⟨Int.mul_nonneg h0 r0, Int.mul_le_mul h1 r1 r0 (by omega)⟩
theorem down_mul {p r b : Int} (h0 : p ≤ 0) (h1 : -b ≤ p) (r0 : 0 ≤ r) (r1 : r ≤ 45425) : p * r ≤ 0 ∧ -(b * 45425) ≤ p * r := by
  have h := up_mul (p := -p) (r := r) (b := b) (by omega) (by omega) r0 r1
  rw [Int.neg_mul] at h
  omega
/-- The terms stay small, one by one. -/
theorem poly_all (r : Int) (r0 : 0 ≤ r) (r1 : r ≤ 45425) : polyAt r 1 = 35472643 ∧ (-175978408 ≤ polyAt r 2 ∧ polyAt r 2 ≤ -151000000) ∧ (414000000 ≤ polyAt r 3 ∧ polyAt r 3 ≤ 536691957) ∧ (-1073764153 ≤ polyAt r 4 ∧ polyAt r 4 ≤ -701000000) ∧ (329000000 ≤ polyAt r 5 ∧ polyAt r 5 ≤ 1073741824) := by
  have e1 : polyAt r 1 = 35472643 := by
    show (35472643 : Int) + shf (0 * r) 16 = 35472643
    rw [shf16, Int.zero_mul]
    rfl
  have e2 : polyAt r 2 = -175978408 + shf (polyAt r 1 * r) 16 := rfl
  have e3 : polyAt r 3 = 536691957 + shf (polyAt r 2 * r) 16 := rfl
  have e4 : polyAt r 4 = -1073764153 + shf (polyAt r 3 * r) 16 := rfl
  have e5 : polyAt r 5 = 1073741824 + shf (polyAt r 4 * r) 16 := rfl
  rw [shf16] at e2 e3 e4 e5
  have b1 := up_mul (p := polyAt r 1) (r := r) (b := 35472643) (by omega) (by omega) r0 r1
  have h2 : -175978408 ≤ polyAt r 2 ∧ polyAt r 2 ≤ -151000000 := by omega
  have b2 := down_mul (p := polyAt r 2) (r := r) (b := 175978408) (by omega) (by omega) r0 r1
  have h3 : 414000000 ≤ polyAt r 3 ∧ polyAt r 3 ≤ 536691957 := by omega
  have b3 := up_mul (p := polyAt r 3) (r := r) (b := 536691957) (by omega) (by omega) r0 r1
  have h4 : -1073764153 ≤ polyAt r 4 ∧ polyAt r 4 ≤ -701000000 := by omega
  have b4 := down_mul (p := polyAt r 4) (r := r) (b := 1073764153) (by omega) (by omega) r0 r1
  have h5 : 329000000 ≤ polyAt r 5 ∧ polyAt r 5 ≤ 1073741824 := by omega
  exact ⟨e1, h2, h3, h4, h5⟩
theorem poly_small (r : Int) (r0 : 0 ≤ r) (r1 : r ≤ 45425) (i : Nat) (hi : i ≤ 5) : -1073764153 ≤ polyAt r i ∧ polyAt r i ≤ 1073741824 := by
  obtain ⟨h1, h2, h3, h4, h5⟩ := poly_all r r0 r1
  match i, hi with
  | 0, _ => exact ⟨by show (-1073764153 : Int) ≤ 0; decide, by show (0 : Int) ≤ 1073741824; decide⟩
  | 1, _ => omega
  | 2, _ => omega
  | 3, _ => omega
  | 4, _ => omega
  | 5, _ => omega
theorem poly_mul (r : Int) (r0 : 0 ≤ r) (r1 : r ≤ 45425) (i : Nat) (hi : i ≤ 5) : -48776234150025 - 1 ≤ polyAt r i * r ∧ polyAt r i * r ≤ 48775234150025 := by
  have h := poly_small r r0 r1 i hi
  rcases Int.le_total 0 (polyAt r i) with h0 | h0
  · have := up_mul h0 h.2 r0 r1
    omega
  · have := down_mul (b := 1073764153) h0 (by omega) r0 r1
    omega
set_option maxHeartbeats 1000000 in
set_option maxRecDepth 100000 in
theorem exp_calls (z : Int) (hz : -9223372036854775808 ≤ z ∧ z ≤ 9223372036854775807) (w : World) (hL : Laid w) : Calls Tryd.prog 60 #[.int .i64 z] w (Says (.int .i64 (expf z)) w) := by
  by_cases hlow : z < -1048576
  · have e : expf z = 0 := by unfold expf; rw [if_pos hlow]
    rw [e]
    clear e hL
    go_enter Tryd.func60, Tryd.ntmps60
    go_wp2
    go_ret
    exact ⟨rfl, 0, rfl⟩
  · obtain ⟨m, hm⟩ : ∃ m : Int, (if 0 < z then (0 : Int) else z) = m := ⟨_, rfl⟩
    have hm0 : -1048576 ≤ m ∧ m ≤ 0 := by rw [← hm]; split <;> omega
    obtain ⟨y, hy⟩ : ∃ y : Nat, (y : Int) = -m := ⟨(-m).toNat, by omega⟩
    have e : expf z = shf (shf (polyAt ((y : Int) % 45426) 5) 14) (y / 45426) := by
      unfold expf
      rw [if_neg hlow, hm, ← hy]
      show shf (shf (polyAt ((y : Int) % 45426) 5) 14) ((y : Int) / 45426).toNat = _
      congr 1
    rw [e]
    have hy2 : (y : Int) ≤ 1048576 := by omega
    have ez : -m = (y : Int) := by omega
    obtain ⟨r, hr⟩ : ∃ r : Int, (y : Int).tmod 45426 = r := ⟨_, rfl⟩
    have hr2 : (y : Int) % 45426 = r := by rw [← hr, Int.tmod_eq_emod_of_nonneg (by omega)]
    have hr0 : 0 ≤ r ∧ r ≤ 45425 := by omega
    obtain ⟨d, hd⟩ : ∃ d : Nat, y / 45426 = d := ⟨_, rfl⟩
    have hd2 : (y : Int).tdiv 45426 = (d : Int) := by rw [Int.tdiv_eq_ediv_of_nonneg (by omega)]; omega
    rw [hr2, hd]
    have hdd : d ≤ 62 := by omega
    have HL := Aside0.mk hL
    have HR := Aside0.mk hr0
    have HDD := Aside0.mk hdd
    clear hL hlow hy hm0 hr0 hr2 e
    have e0 : Aside0 (polyAt r 0 = 0) := ⟨rfl⟩
    obtain ⟨P, hP⟩ : ∃ P : Nat → Int, P = polyAt r := ⟨_, rfl⟩
    have HPM : Aside0 (∀ i, i ≤ 5 → -48776234150025 - 1 ≤ P i * r ∧ P i * r ≤ 48775234150025) := ⟨fun i hi => by rw [hP]; exact poly_mul r HR.out.1 HR.out.2 i hi⟩
    have HPS : Aside0 (∀ i, i ≤ 5 → -1073764153 ≤ P i ∧ P i ≤ 1073741824) := ⟨fun i hi => by rw [hP]; exact poly_small r HR.out.1 HR.out.2 i hi⟩
    have HPN : Aside0 (∀ i, P (i + 1) = terms.getD (4 - i) 0 + shf (P i * r) 16) := ⟨fun i => by rw [hP]; rfl⟩
    rw [← hP] at e0 ⊢
    clear hP
    go_enter Tryd.func60, Tryd.ntmps60
    go_wp2
    go_loopg [4, 13] 5 (fun gk v4 v13 wr => ∃ i : Nat, v13 = .int .i64 i ∧ v4 = .int .i64 (P i) ∧ i ≤ 5 ∧ 5 ≤ i + gk ∧ ∃ q, wr = w.drewN q)
    case atStart => exact ⟨0, rfl, by rw [e0.out], by omega, by omega, 0, rfl⟩
    case round =>
      obtain ⟨i, rfl, rfl, hi, hg, q, hq⟩ := hrel
      have HQ := Aside0.mk hq
      have HLr : Aside0 (Laid wr) := ⟨by rw [hq]; exact HL.out.drew q⟩
      clear hq
      by_cases hlt : i < 5
      · have hc := HLr.out.t (4 - i) (by omega)
        obtain ⟨j, hj⟩ : ∃ j, 4 - i = j := ⟨_, rfl⟩
        have e4 : (4 : Int) - (i : Int) = (j : Int) := by omega
        have hj5 : (j : Int) < 5 := by omega
        have hn := HPN.out i
        rw [hj] at hc hn
        obtain ⟨pr, hpr⟩ : ∃ pr, P i * r = pr := ⟨_, rfl⟩
        have hprb := HPM.out i (by omega)
        rw [hpr] at hprb hn
        obtain ⟨tj, htj⟩ : ∃ tj, terms.getD j 0 = tj := ⟨_, rfl⟩
        rw [htj] at hc hn
        obtain ⟨sv, hsv⟩ : ∃ sv, shf pr 16 = sv := ⟨_, rfl⟩
        have HW : Aside0 (∀ W, Calls Tryd.prog 56 #[.int .i64 pr, .int .i64 16] W (Says (.int .i64 sv) W)) := ⟨fun W => by rw [← hsv]; exact shift_calls pr 16 (by omega) (by omega) W⟩
        rw [hsv] at hn
        have w1 : wrap64 pr = pr := by unfold wrap64; omega
        have hnb := HPS.out (i + 1) (by omega)
        have w2 : wrap64 (tj + sv) = P (i + 1) := by rw [hn] at hnb; rw [hn]; unfold wrap64; omega
        have v0 : IntKind.i64.wrap (j : Int) = (j : Int) := by rw [IntWalk.i64_left]; unfold wrap64; omega
        have v1 : IntKind.i64.wrap pr = pr := by rw [IntWalk.i64_left]; exact w1
        have v2 : IntKind.i64.wrap (tj + sv) = P (i + 1) := by rw [IntWalk.i64_left]; exact w2
        have HHJ := Aside0.mk hj
        clear hprb hn htj hsv hnb hj
        go_wp2_with fail
        go_quiet ((go_at_call 56; refine Calls.quiet_of (HW.out _)))
        go_wp2_with fail
        go_roundg (5 - (i + 1))
        case measure => omega
        case rel => exact ⟨i + 1, by first | rfl | (simp; done), rfl, by omega, by omega, q + nq, by rw [HQ.out, World.drewN_drewN]⟩
      · obtain rfl : i = 5 := by omega
        have h5 := HPS.out 5 (by omega)
        have HW : Aside0 (∀ W, Calls Tryd.prog 56 #[.int .i64 (P 5), .int .i64 14] W (Says (.int .i64 (shf (P 5) 14)) W)) := ⟨fun W => shift_calls (P 5) 14 (by omega) (by omega) W⟩
        have h6 : -9223372036854775808 ≤ shf (P 5) 14 ∧ shf (P 5) 14 ≤ 9223372036854775807 := by rw [shf14]; omega
        have HW2 : Aside0 (∀ W, Calls Tryd.prog 56 #[.int .i64 (shf (P 5) 14), .int .i64 d] W (Says (.int .i64 (shf (shf (P 5) 14) d)) W)) := ⟨fun W => shift_calls _ d HDD.out h6 W⟩
        clear h5 h6
        go_wp2_with (first | (go_at_call 56; (first | (with_reducible refine Calls.mono (HW.out _) ?_) | (with_reducible refine Calls.mono (HW2.out _) ?_)); rintro e w7 ⟨rfl, q7, rfl⟩) | fail)
        go_ret
        rw [HQ.out]
        exact ⟨rfl, _, by rw [World.drewN_drewN]⟩
#print axioms exp_calls

/-! ### draw -/
def rounds : Value := .agg #[.int .u64 30, .int .u64 13787848793156543929, .int .u64 27, .int .u64 10723151780598845931, .int .u64 31, .int .u64 1]
theorem rounds_at0 (W : World) : Sem.run Tryd.prog (Instr.index 88 (.agg #[.int .u64 30, .int .u64 13787848793156543929, .int .u64 27, .int .u64 10723151780598845931, .int .u64 31, .int .u64 1]) (.int .i64 0)) W = .ok (.agg #[.int .u64 30, .int .u64 13787848793156543929]) W := by kernel_rfl
theorem rounds_at1 (W : World) : Sem.run Tryd.prog (Instr.index 88 (.agg #[.int .u64 30, .int .u64 13787848793156543929, .int .u64 27, .int .u64 10723151780598845931, .int .u64 31, .int .u64 1]) (.int .i64 1)) W = .ok (.agg #[.int .u64 27, .int .u64 10723151780598845931]) W := by kernel_rfl
theorem rounds_at2 (W : World) : Sem.run Tryd.prog (Instr.index 88 (.agg #[.int .u64 30, .int .u64 13787848793156543929, .int .u64 27, .int .u64 10723151780598845931, .int .u64 31, .int .u64 1]) (.int .i64 2)) W = .ok (.agg #[.int .u64 31, .int .u64 1]) W := by kernel_rfl
def mst (y d f : Int) : Int := IntKind.u64.wrap (bits BinOp.xor .u64 y (y / d) * f)
def mixf (x : Int) : Int := mst (mst (mst x 1073741824 13787848793156543929) 134217728 10723151780598845931) 2147483648 1
def mixAt (x : Int) : Nat → Int
  | 0 => x
  | 1 => mst x 1073741824 13787848793156543929
  | 2 => mst (mst x 1073741824 13787848793156543929) 134217728 10723151780598845931
  | _ => mixf x
set_option maxHeartbeats 1000000 in
set_option maxRecDepth 100000 in
theorem mix_calls (x : Int) (w : World) (hL : Laid w) : Calls Tryd.prog 47 #[.int .u64 x] w (fun e w' => e = .returned (.int .u64 (mixf x)) ∧ Below w.heap.size w w') := by
  have h0 := hL.s0
  have h1 := hL.f0
  have h2 := hL.s1
  have h3 := hL.f1
  have h4 := hL.s2
  have h5 := hL.f2
  have m1 : mixAt x 1 = IntKind.u64.wrap (bits BinOp.xor .u64 (mixAt x 0) (mixAt x 0 / 1073741824) * 13787848793156543929) := rfl
  have m2 : mixAt x 2 = IntKind.u64.wrap (bits BinOp.xor .u64 (mixAt x 1) (mixAt x 1 / 134217728) * 10723151780598845931) := rfl
  have m3 : mixAt x 3 = IntKind.u64.wrap (bits BinOp.xor .u64 (mixAt x 2) (mixAt x 2 / 2147483648)) := by
    show IntKind.u64.wrap (bits BinOp.xor .u64 _ (_ / 2147483648) * 1) = _
    rw [Int.mul_one]
    rfl
  have M0 : Aside0 (mixAt x 0 = x) := ⟨rfl⟩
  have M4 : Aside0 (mixf x = mixAt x 3) := ⟨rfl⟩
  rw [M4.out]
  obtain ⟨M, hM⟩ : ∃ M : Nat → Int, M = mixAt x := ⟨_, rfl⟩
  rw [← hM] at m1 m2 m3 M0 ⊢
  have N1 := Aside0.mk m1
  have N2 := Aside0.mk m2
  have N3 := Aside0.mk m3
  clear hM m1 m2 m3 M4 hL
  go_enter Tryd.func47, Tryd.ntmps47
  go_upto_region 2 with fail
  clear h0 h1 h2 h3 h4 h5
  go_loopg [0, 6] 3 (fun gk v0 v6 wr => ∃ (i : Nat), v6 = .int .i64 i ∧ v0 = .int .u64 (M i) ∧ i ≤ 3 ∧ 3 ≤ i + gk ∧ Aside0 (Below w.heap.size w wr))
  case atStart => exact ⟨0, rfl, by rw [M0.out], by omega, by omega, ⟨Below.refl _ _⟩⟩
  case round =>
    obtain ⟨i, rfl, rfl, hi, hg, HB⟩ := hrel
    rcases (show i = 0 ∨ i = 1 ∨ i = 2 ∨ i = 3 by omega) with rfl | rfl | rfl | rfl
    · have hx := rounds_at0
      go_wp2_with fail
      go_roundg 2
      case measure => omega
      case rel => exact ⟨1, rfl, by rw [N1.out], by omega, by omega, ⟨HB.out.alloc HB.out.size _⟩⟩
    · have hx := rounds_at1
      go_wp2_with fail
      go_roundg 1
      case measure => omega
      case rel => exact ⟨2, rfl, by rw [N2.out], by omega, by omega, ⟨HB.out.alloc HB.out.size _⟩⟩
    · have hx := rounds_at2
      go_wp2_with fail
      go_roundg 0
      case measure => omega
      case rel => exact ⟨3, rfl, by rw [N3.out], by omega, by omega, ⟨HB.out.alloc HB.out.size _⟩⟩
    · go_wp2_with fail
      go_ret
      exact ⟨rfl, HB.out⟩
#print axioms mix_calls
theorem u64_wrap (x : Int) : IntKind.u64.wrap x = x % 18446744073709551616 := by simp [IntKind.wrap, IntKind.bits, IntKind.signed]
theorem mixf_range (x : Int) : 0 ≤ mixf x ∧ mixf x < 18446744073709551616 := by
  unfold mixf
  generalize mst (mst x 1073741824 13787848793156543929) 134217728 10723151780598845931 = y
  unfold mst
  rw [u64_wrap]
  omega
/-- The number of a seed at a position, in a lane. -/
def atf (seed pos lane : Int) : Int :=
  mixf (IntKind.u64.wrap (mixf (IntKind.u64.wrap (mixf (IntKind.u64.wrap (seed + 11400714819323198485)) + IntKind.u64.wrap (11400714819323198485 * IntKind.u64.wrap pos))) + IntKind.u64.wrap (11400714819323198485 * IntKind.u64.wrap lane)))
theorem pair_at0 (a b : Int) (W : World) : Sem.run Tryd.prog (Instr.index 75 (.agg #[.int .i64 a, .int .i64 b]) (.int .i64 0)) W = .ok (.int .i64 a) W := by kernel_rfl
theorem pair_at1 (a b : Int) (W : World) : Sem.run Tryd.prog (Instr.index 75 (.agg #[.int .i64 a, .int .i64 b]) (.int .i64 1)) W = .ok (.int .i64 b) W := by kernel_rfl
def atAt (seed pos lane : Int) : Nat → Int
  | 0 => mixf (IntKind.u64.wrap (seed + 11400714819323198485))
  | 1 => mixf (IntKind.u64.wrap (mixf (IntKind.u64.wrap (seed + 11400714819323198485)) + IntKind.u64.wrap (11400714819323198485 * IntKind.u64.wrap pos)))
  | _ => atf seed pos lane
set_option maxHeartbeats 1000000 in
set_option maxRecDepth 100000 in
theorem at_calls (seed pos lane : Int) (w : World) (hL : Laid w) : Calls Tryd.prog 29 #[.int .u64 seed, .int .i64 pos, .int .i64 lane] w (fun e w' => e = .returned (.int .u64 (atf seed pos lane)) ∧ Below w.heap.size w w') := by
  have HM : Aside0 (∀ x W, Laid W → Calls Tryd.prog 47 #[.int .u64 x] W (fun e w' => e = .returned (.int .u64 (mixf x)) ∧ Below W.heap.size W w')) := ⟨fun x W h => mix_calls x W h⟩
  have M0 : Aside0 (atAt seed pos lane 0 = mixf (IntKind.u64.wrap (seed + 11400714819323198485))) := ⟨rfl⟩
  have M1 : Aside0 (atAt seed pos lane 1 = mixf (IntKind.u64.wrap (atAt seed pos lane 0 + IntKind.u64.wrap (11400714819323198485 * IntKind.u64.wrap pos)))) := ⟨rfl⟩
  have M2 : Aside0 (atAt seed pos lane 2 = mixf (IntKind.u64.wrap (atAt seed pos lane 1 + IntKind.u64.wrap (11400714819323198485 * IntKind.u64.wrap lane)))) := ⟨rfl⟩
  have M4 : Aside0 (atf seed pos lane = atAt seed pos lane 2) := ⟨rfl⟩
  rw [M4.out]
  obtain ⟨M, hM⟩ : ∃ M : Nat → Int, M = atAt seed pos lane := ⟨_, rfl⟩
  rw [← hM] at M0 M1 M2 ⊢
  have HL := Aside0.mk hL
  clear hM M4 hL
  go_enter Tryd.func29, Tryd.ntmps29
  go_upto_region 3 with (go_at_call 47; (with_reducible refine Calls.mono (HM.out _ _ HL.out) ?_); rintro e w1 ⟨rfl, hb⟩; have HB := Aside0.mk hb; clear hb)
  go_loopg [7, 16] 2 (fun gk v7 v16 wr => ∃ (i : Nat), v16 = .int .i64 i ∧ v7 = .int .u64 (M i) ∧ i ≤ 2 ∧ 2 ≤ i + gk ∧ Aside0 (Below w.heap.size w wr))
  case atStart => exact ⟨0, rfl, by rw [M0.out], by omega, by omega, HB⟩
  case round =>
    obtain ⟨i, rfl, rfl, hi, hg, HB2⟩ := hrel
    have HLr := Aside0.mk (HL.out.move HB2.out)
    rcases (show i = 0 ∨ i = 1 ∨ i = 2 by omega) with rfl | rfl | rfl
    · have hx := pair_at0 pos lane
      go_wp2_with (go_at_call 47; (with_reducible refine Calls.mono (HM.out _ _ HLr.out) ?_); rintro e w2 ⟨rfl, hb⟩; have HB3 := Aside0.mk (below_then HB2.out HB2.out.size hb); clear hb)
      go_roundg 1
      case measure => omega
      case rel => exact ⟨1, rfl, by rw [M1.out], by omega, by omega, HB3⟩
    · have hx := pair_at1 pos lane
      go_wp2_with (go_at_call 47; (with_reducible refine Calls.mono (HM.out _ _ HLr.out) ?_); rintro e w2 ⟨rfl, hb⟩; have HB3 := Aside0.mk (below_then HB2.out HB2.out.size hb); clear hb)
      go_roundg 0
      case measure => omega
      case rel => exact ⟨2, rfl, by rw [M2.out], by omega, by omega, HB3⟩
    · go_wp2_with fail
      go_ret
      exact ⟨rfl, HB2.out⟩
#print axioms at_calls
end Go.Proofs.YtfnphepiopncbaaDoor.Pick
namespace Go.Proofs.YtfnphepiopncbaaDoor.Pick
open Go.RowKit Go.Proofs.YtfnphepiopncbaaDoorW.PrintWords Go.Proofs.YtfnphepiopncbaaDoorW.PrintLast Go.Proofs.YtfnphepiopncbaaDoorW.PrintMore
open Go.Proofs.YtfnphepiopncbaaDoor.PPickChooses (bits_Mul64.f bits_Mul64.calls fix_Clamp.f fix_Clamp.calls fix_Div.f fix_Div.calls)
attribute [local go_sem] max2_int min2_int max_two min_two max_three min_three max_four min_four
set_option linter.unusedVariables false
set_option linter.unusedSimpArgs false

theorem u64_low (n : Int) : bits .and .u64 n 4294967295 = n % 4294967296 := by
  have h1 : (BitVec.ofInt 64 4294967295).toNat = 2 ^ 32 - 1 := by decide
  have key : (BitVec.ofInt 64 n &&& BitVec.ofInt 64 4294967295).toNat = (n % ((2 ^ 64 : Nat) : Int)).toNat % 2 ^ 32 := by
    rw [BitVec.toNat_and, BitVec.toNat_ofInt, h1, Nat.and_two_pow_sub_one_eq_mod]
  show IntKind.u64.wrap ((BitVec.ofInt 64 n &&& BitVec.ofInt 64 4294967295).toNat : Nat) = n % 4294967296
  rw [key, u64_wrap]
  omega
theorem half_mul {a b : Int} (a0 : 0 ≤ a) (a1 : a ≤ 4294967295) (b0 : 0 ≤ b) (b1 : b ≤ 4294967295) : 0 ≤ a * b ∧ a * b ≤ 18446744065119617025 :=
  ⟨Int.mul_nonneg a0 b0, by have h : a * b ≤ (4294967295 : Int) * 4294967295 := Int.mul_le_mul a1 b1 b0 (by omega); omega⟩
theorem mul64_is (u n : Int) (hu : 0 ≤ u ∧ u < 18446744073709551616) (hn : 0 ≤ n ∧ n < 18446744073709551616) : bits_Mul64.f u n = some (u * n / 18446744073709551616, u * n % 18446744073709551616) := by
  obtain ⟨a1, ha1⟩ : ∃ a1, u / 4294967296 = a1 := ⟨_, rfl⟩
  obtain ⟨a0, ha0⟩ : ∃ a0, u % 4294967296 = a0 := ⟨_, rfl⟩
  obtain ⟨b1, hb1⟩ : ∃ b1, n / 4294967296 = b1 := ⟨_, rfl⟩
  obtain ⟨b0, hb0⟩ : ∃ b0, n % 4294967296 = b0 := ⟨_, rfl⟩
  have eu : u = a1 * 4294967296 + a0 := by omega
  have en : n = b1 * 4294967296 + b0 := by omega
  have hun : u * n = (a1 * b1) * 18446744073709551616 + (a1 * b0 + a0 * b1) * 4294967296 + a0 * b0 := by
    have h1 : u * n = (a1 * 4294967296 + a0) * (b1 * 4294967296 + b0) := by rw [← eu, ← en]
    have h2 : a1 * 4294967296 * (b1 * 4294967296) = (a1 * b1) * 18446744073709551616 := by
      rw [Int.mul_assoc, Int.mul_left_comm (4294967296 : Int) b1, ← Int.mul_assoc]
      rfl
    have h3 : a1 * 4294967296 * b0 = (a1 * b0) * 4294967296 := by rw [Int.mul_assoc, Int.mul_comm (4294967296 : Int) b0, ← Int.mul_assoc]
    have h4 : a0 * (b1 * 4294967296) = (a0 * b1) * 4294967296 := by rw [← Int.mul_assoc]
    rw [h1, Int.add_mul, Int.mul_add, Int.mul_add, h2, h3, h4]
    omega
  unfold bits_Mul64.f
  simp only [u64_low, u64_wrap]
  rw [ha1, ha0, hb1, hb0, hun]
  have p11 := half_mul (a := a1) (b := b1) (by omega) (by omega) (by omega) (by omega)
  have p10 := half_mul (a := a1) (b := b0) (by omega) (by omega) (by omega) (by omega)
  have p01 := half_mul (a := a0) (b := b1) (by omega) (by omega) (by omega) (by omega)
  have p00 := half_mul (a := a0) (b := b0) (by omega) (by omega) (by omega) (by omega)
  generalize a1 * b1 = x11 at *
  generalize a1 * b0 = x10 at *
  generalize a0 * b1 = x01 at *
  generalize a0 * b0 = x00 at *
  congr 2
  omega
/-- u as a number below n. -/
def belowf (u n : Int) : Int := u * n / 18446744073709551616
theorem below_lt (u n : Int) (hu : 0 ≤ u ∧ u < 18446744073709551616) (hn : 0 < n) : 0 ≤ belowf u n ∧ belowf u n < n := by
  unfold belowf
  have h := Int.mul_nonneg hu.1 (Int.le_of_lt hn)
  constructor
  · omega
  · rw [Int.ediv_lt_iff_lt_mul (by decide), Int.mul_comm n]
    exact Int.mul_lt_mul_of_pos_right hu.2 hn
theorem arr_at0 (a b : Int) (W : World) : Sem.run Tryd.prog (Instr.index 72 (.agg #[.int .u64 a, .int .u64 b]) (.int .i64 0)) W = .ok (.int .u64 a) W := by kernel_rfl
set_option maxHeartbeats 1000000 in
theorem prod_calls (u n : Int) (w : World) (hu : 0 ≤ u ∧ u < 18446744073709551616) (hn : 0 ≤ n ∧ n < 18446744073709551616) : Calls Tryd.prog 46 #[.int .u64 u, .int .u64 n] w (fun e w' => e = .returned (.agg #[.int .u64 (u * n / 18446744073709551616), .int .u64 (u * n % 18446744073709551616)]) ∧ Below w.heap.size w w') := by
  have HM : Aside0 (∀ W, Calls Tryd.prog 67 #[.int .u64 u, .int .u64 n] W (fun e w' => e = .returned (.tuple #[.int .u64 (u * n / 18446744073709551616), .int .u64 (u * n % 18446744073709551616)]) ∧ Drawn0 W w')) := ⟨fun W => bits_Mul64.calls u n _ _ W (mul64_is u n hu hn)⟩
  clear hu hn
  go_enter Tryd.func46, Tryd.ntmps46
  go_wp2_with (go_at_call 67; (with_reducible refine Calls.mono (HM.out _) ?_); rintro e w2 ⟨rfl, hd⟩; obtain ⟨⟨nd, hw6⟩⟩ := hd; subst hw6)
  obtain ⟨x, hx⟩ : ∃ x, u * n / 18446744073709551616 = x := ⟨_, rfl⟩
  obtain ⟨y, hy⟩ : ∃ y, u * n % 18446744073709551616 = y := ⟨_, rfl⟩
  rw [hx, hy]
  clear HM hx hy
  refine bodyPost_ret (v := .agg #[.int .u64 x, .int .u64 y]) (by simp [results, Tryd.f46, go_sem]) rfl ⟨rfl, ?_⟩
  exact (((((pw_below_drewN (((Below.refl _ _).alloc (Nat.le_refl _) _).alloc (by simp) _) nd).setCell (p := ⟨w.heap.size + 1, 0, none⟩) (by simp) _).setCell (p := ⟨w.heap.size + 1, 1, none⟩) (by simp) _).setCell (p := ⟨w.heap.size, 0, none⟩) (by simp) _).setCell (p := ⟨w.heap.size, 1, none⟩) (by simp) _)
#print axioms prod_calls
set_option maxHeartbeats 1000000 in
theorem below_calls (u n : Int) (w : World) (hu : 0 ≤ u ∧ u < 18446744073709551616) (hn : 0 ≤ n ∧ n < 18446744073709551616) : Calls Tryd.prog 28 #[.int .u64 u, .int .u64 n] w (fun e w' => e = .returned (.int .u64 (belowf u n)) ∧ Below w.heap.size w w') := by
  have HM := Aside0.mk (prod_calls u n w hu hn)
  have hx := arr_at0 (u * n / 18446744073709551616) (u * n % 18446744073709551616)
  clear hu hn
  go_enter Tryd.func28, Tryd.ntmps28
  go_wp2_with (go_at_call 46; (with_reducible refine Calls.mono HM.out ?_); rintro e w2 ⟨rfl, hb⟩)
  go_ret
  exact ⟨rfl, hb⟩
#print axioms below_calls

/-! ### Clamp, Div -/
def clampf (v m : Int) : Int := if v < -m then -m else if m < v then m else v
theorem clamp_calls (v m : Int) (w : World) (hm : 0 ≤ m ∧ m ≤ 9223372036854775807) : Calls Tryd.prog 54 #[.int .i64 v, .int .i64 m] w (fun e w' => e = .returned (.int .i64 (clampf v m)) ∧ Below w.heap.size w w') := by
  refine fix_Clamp.calls v m _ w ?_
  have e1 : mx m 0 = m := by unfold mx; split <;> omega
  have e2 : wrap64 (-m) = -m := by unfold wrap64; omega
  unfold fix_Clamp.f
  rw [e1, e2]
  congr 1
  unfold clampf mx mn
  repeat' split
  all_goals omega
theorem div_calls (a b : Int) (w : World) (ha : -9223372036854775807 ≤ a ∧ a ≤ 9223372036854775807) (hb : 0 < b) : Calls Tryd.prog 55 #[.int .i64 a, .int .i64 b] w (Says (.int .i64 (a / b)) w) := by
  have hf : fix_Div.f a b = some (a / b) := by
    unfold fix_Div.f
    rw [if_neg (by omega), if_neg (by omega)]
    have h1 : -9223372036854775807 ≤ a.tdiv b ∧ a.tdiv b ≤ 9223372036854775807 := by
      have h2 := Int.natAbs_tdiv_le_natAbs a b
      omega
    have h3 : wrap64 (a.tdiv b) = a.tdiv b := by unfold wrap64; omega
    rw [h3]
    have h4 := Int.mul_tdiv_add_tmod a b
    have h5 := Int.tmod_lt_of_pos a hb
    have h6 := Int.tmod_lt_of_pos (-a) hb
    rw [Int.neg_tmod] at h6
    split
    · rename_i hneg
      have h7 : wrap64 (a.tdiv b - 1) = a.tdiv b - 1 := by unfold wrap64; omega
      rw [h7, ((Int.ediv_emod_unique (a := a) (q := a.tdiv b - 1) (r := a.tmod b + b) hb).2 ⟨by rw [Int.mul_sub, Int.mul_one]; omega, by omega, by omega⟩).1]
    · rename_i hneg
      rw [((Int.ediv_emod_unique (a := a) (q := a.tdiv b) (r := a.tmod b) hb).2 ⟨by omega, by omega, by omega⟩).1]
  refine (fix_Div.calls a b _ w hf).mono ?_
  rintro e w' ⟨rfl, hd⟩
  obtain ⟨⟨n, rfl⟩⟩ := hd
  exact ⟨rfl, n, rfl⟩

/-! ### Check -/
theorem within_yes (n lo hi : Int) (w : World) (h1 : lo ≤ n) (h2 : n ≤ hi) : Calls Tryd.prog 48 #[.int .i64 n, .int .i64 lo, .int .i64 hi] w fun e w' => e = .returned (.bool true) ∧ w = w' := by
  go_enter Tryd.func48, Tryd.ntmps48
  go_wp2
  go_ret
  exact ⟨rfl, rfl⟩
theorem within_lo (n lo hi : Int) (w : World) (h1 : n < lo) : Calls Tryd.prog 48 #[.int .i64 n, .int .i64 lo, .int .i64 hi] w fun e w' => e = .returned (.bool false) ∧ w = w' := by
  go_enter Tryd.func48, Tryd.ntmps48
  go_wp2
  go_ret
  exact ⟨rfl, rfl⟩
theorem within_hi (n lo hi : Int) (w : World) (h1 : lo ≤ n) (h2 : hi < n) : Calls Tryd.prog 48 #[.int .i64 n, .int .i64 lo, .int .i64 hi] w fun e w' => e = .returned (.bool false) ∧ w = w' := by
  have e : decide (n ≤ hi) = false := by simp; omega
  go_enter Tryd.func48, Tryd.ntmps48
  go_wp2
  go_ret
  exact ⟨rfl, rfl⟩
theorem within_no (n lo hi : Int) (w : World) (h : n < lo ∨ hi < n) : Calls Tryd.prog 48 #[.int .i64 n, .int .i64 lo, .int .i64 hi] w fun e w' => e = .returned (.bool false) ∧ w = w' := by
  by_cases h1 : n < lo
  · exact within_lo n lo hi w h1
  · exact within_hi n lo hi w (by omega) (by omega)
/-- The parameters. -/
structure Par where
  T : Int
  K : Int
  P : Int
  N : Int
  S : Int
def Par.v (p : Par) : Value := .agg #[.int .i64 p.T, .int .i64 p.K, .int .i64 p.P, .int .i64 p.N, .int .u64 p.S]
def Par.ok (p : Par) : Prop := (0 ≤ p.T ∧ p.T ≤ 4096) ∧ (0 ≤ p.K ∧ p.K ≤ 64) ∧ (1 ≤ p.P ∧ p.P ≤ 1000) ∧ (64 ≤ p.N ∧ p.N ≤ 1024)
instance (p : Par) : Decidable p.ok := by unfold Par.ok; infer_instance
set_option maxHeartbeats 2000000 in
theorem check_ok (p : Par) (w : World) (h : p.ok) : Calls Tryd.prog 30 #[p.v] w fun e w' => e = .returned (.int .i64 0) ∧ Below w.heap.size w w' := by
  obtain ⟨T, K, P, N, S⟩ := p
  obtain ⟨h1, h2, h3, h4⟩ := h
  unfold Par.v
  dsimp only at *
  go_enter Tryd.func30, Tryd.ntmps30
  go_wp2_with (go_at_call 48; ((refine (within_yes _ _ _ _ ?_ ?_).mono ?_) <;> try omega); rintro e w' ⟨rfl, rfl⟩)
  go_ret
  exact ⟨rfl, (Below.refl _ _).alloc (Nat.le_refl _) _⟩
set_option maxHeartbeats 2000000 in
theorem check_no (p : Par) (w : World) (h : ¬ p.ok) : Calls Tryd.prog 30 #[p.v] w fun e w' => e = .returned (.int .i64 100) ∧ Below w.heap.size w w' := by
  obtain ⟨T, K, P, N, S⟩ := p
  have h : (T < 0 ∨ 4096 < T) ∨ (K < 0 ∨ 64 < K) ∨ (P < 1 ∨ 1000 < P) ∨ (N < 64 ∨ 1024 < N) := by
    unfold Par.ok at h
    dsimp only at h
    omega
  unfold Par.v
  dsimp only
  by_cases c1 : T < 0 ∨ 4096 < T
  · clear h
    go_enter Tryd.func30, Tryd.ntmps30
    go_wp2_with (go_at_call 48; (first | ((refine (within_no _ _ _ _ ?_).mono ?_) <;> first | assumption | skip)); rintro e w' ⟨rfl, rfl⟩)
    go_ret
    exact ⟨rfl, (Below.refl _ _).alloc (Nat.le_refl _) _⟩
  · by_cases c2 : K < 0 ∨ 64 < K
    · have d1 : 0 ≤ T ∧ T ≤ 4096 := by omega
      clear h c1
      go_enter Tryd.func30, Tryd.ntmps30
      go_wp2_with fail
      refine (within_yes _ _ _ _ d1.1 d1.2).mono ?_
      rintro e w' ⟨rfl, rfl⟩
      go_wp2_with fail
      refine (within_no _ _ _ _ c2).mono ?_
      rintro e w' ⟨rfl, rfl⟩
      go_wp2_with fail
      go_ret
      exact ⟨rfl, (Below.refl _ _).alloc (Nat.le_refl _) _⟩
    · by_cases c3 : P < 1 ∨ 1000 < P
      · have d1 : 0 ≤ T ∧ T ≤ 4096 := by omega
        have d2 : 0 ≤ K ∧ K ≤ 64 := by omega
        clear h c1 c2
        go_enter Tryd.func30, Tryd.ntmps30
        go_wp2_with fail
        refine (within_yes _ _ _ _ d1.1 d1.2).mono ?_
        rintro e w' ⟨rfl, rfl⟩
        go_wp2_with fail
        refine (within_yes _ _ _ _ d2.1 d2.2).mono ?_
        rintro e w' ⟨rfl, rfl⟩
        go_wp2_with fail
        refine (within_no _ _ _ _ c3).mono ?_
        rintro e w' ⟨rfl, rfl⟩
        go_wp2_with fail
        go_ret
        exact ⟨rfl, (Below.refl _ _).alloc (Nat.le_refl _) _⟩
      · have d1 : 0 ≤ T ∧ T ≤ 4096 := by omega
        have d2 : 0 ≤ K ∧ K ≤ 64 := by omega
        have d3 : 1 ≤ P ∧ P ≤ 1000 := by omega
        have c4 : N < 64 ∨ 1024 < N := by omega
        clear h c1 c2 c3
        go_enter Tryd.func30, Tryd.ntmps30
        go_wp2_with fail
        refine (within_yes _ _ _ _ d1.1 d1.2).mono ?_
        rintro e w' ⟨rfl, rfl⟩
        go_wp2_with fail
        refine (within_yes _ _ _ _ d2.1 d2.2).mono ?_
        rintro e w' ⟨rfl, rfl⟩
        go_wp2_with fail
        refine (within_yes _ _ _ _ d3.1 d3.2).mono ?_
        rintro e w' ⟨rfl, rfl⟩
        go_wp2_with fail
        refine (within_no _ _ _ _ c4).mono ?_
        rintro e w' ⟨rfl, rfl⟩
        go_wp2_with fail
        go_ret
        exact ⟨rfl, (Below.refl _ _).alloc (Nat.le_refl _) _⟩
theorem check_calls (p : Par) (w : World) : Calls Tryd.prog 30 #[p.v] w fun e w' => e = .returned (.int .i64 (if p.ok then 0 else 100)) ∧ Below w.heap.size w w' := by
  by_cases h : p.ok
  · rw [if_pos h]; exact check_ok p w h
  · rw [if_neg h]; exact check_no p w h
#print axioms check_calls
end Go.Proofs.YtfnphepiopncbaaDoor.Pick
namespace Go.Proofs.YtfnphepiopncbaaDoor.Pick
open Go.RowKit Go.Proofs.YtfnphepiopncbaaDoorW.PrintWords Go.Proofs.YtfnphepiopncbaaDoorW.PrintLast Go.Proofs.YtfnphepiopncbaaDoorW.PrintMore Go.Proofs.YtfnphepiopncbaaDoor.MapsV Go.Proofs.YtfnphepiopncbaaDoor.Srt
open Go.Proofs.YtfnphepiopncbaaDoor.Heads (kI infoI64)
set_option linter.unusedVariables false
set_option linter.unusedSimpArgs false

theorem C_nat {w : World} {A : Option Addr} {n : Nat} {l : List Int} (h : kI.C w A n l) (i : Nat) (hi : i < n) : ∃ ad, A = some ad ∧ w.cell? (ad.add i) = some (.int .i64 (l.getD i 0)) := by
  obtain ⟨ad, e, hc⟩ := Kd.at_int h (i : Int) (by omega) (by omega)
  refine ⟨ad, e, ?_⟩
  rw [Int.toNat_natCast] at hc
  rw [hc]
  unfold rd
  rw [Int.toNat_natCast]
theorem take_next {l : List Int} {i : Nat} (h : i < l.length) : l.take (i + 1) = l.take i ++ [l.getD i 0] := by
  rw [List.take_add_one, List.getElem?_eq_getElem h, List.getD_eq_getElem?_getD, List.getElem?_eq_getElem h]
  rfl
theorem key_int {x : Int} (h : (Lit.int .i64 x).wf = true) : ∃ q, keyOf Tryd.prog 3 (.int .i64 x) = some q := ⟨_, Maps.keyOf_int_mk Tryd.underlying3 h⟩
theorem int_inj : ∀ a b : Int, Value.int .i64 a = Value.int .i64 b → a = b := fun a b h => by injection h
theorem zero_int : ∀ w, (zeroValue 3).run Tryd.prog w = .ok (.int .i64 0) w := by intro w; kernel_rfl

def wide (x : Int) : Int := clampf x 16777216
theorem wide_range (x : Int) : -16777216 ≤ wide x ∧ wide x ≤ 16777216 := by
  unfold wide clampf
  repeat' split
  all_goals omega
/-- The score of a token that was seen. -/
def seenf (pen c : Int) : Int := if 0 < c then c * 256 / pen else shf (c * pen) 8
def scoreAt (pen : Int) (sn l : List Int) (i : Nat) : Int := if (i : Int) ∈ sn then seenf pen (wide (l.getD i 0)) else wide (l.getD i 0)
def scores (pen : Int) (sn l : List Int) : List Int := (List.range l.length).map (scoreAt pen sn l)
theorem scores_len (pen : Int) (sn l : List Int) : (scores pen sn l).length = l.length := by simp [scores]
theorem scores_get {pen : Int} {sn l : List Int} {i : Nat} (h : i < l.length) : (scores pen sn l).getD i 0 = scoreAt pen sn l i := by
  unfold scores
  rw [List.getD_eq_getElem?_getD, List.getElem?_map, List.getElem?_range h]
  rfl
theorem scores_same {pen : Int} {sn sn' l : List Int} (h : ∀ i : Nat, i < l.length → ((i : Int) ∈ sn ↔ (i : Int) ∈ sn')) : scores pen sn l = scores pen sn' l := by
  unfold scores
  apply List.map_congr_left
  intro i hi
  rw [List.mem_range] at hi
  unfold scoreAt
  simp only [h i hi]
theorem scores_next {pen : Int} {sn l : List Int} {t : Nat} (ht : t < l.length) : (scores pen sn l).set t (seenf pen (wide (l.getD t 0))) = scores pen (sn ++ [(t : Int)]) l := by
  apply List.ext_getElem?
  intro j
  unfold scores
  by_cases h : j < l.length
  · by_cases e : t = j
    · subst e
      simp [h, scoreAt]
    · rw [List.getElem?_set_ne e]
      have e2 : ¬ (j : Int) = (t : Int) := by omega
      simp [h, scoreAt, e2]
  · rw [List.getElem?_eq_none (by simp; omega), List.getElem?_eq_none (by simp; omega)]
theorem shf8 (x : Int) : shf x 8 = x / 256 + x / 128 % 2 := rfl
/-- The list while it is filled. -/
def filled (l : List Int) (i : Nat) : List Int := (l.take i).map wide ++ List.replicate (l.length - i) 0
theorem filled_len {l : List Int} {i : Nat} (h : i ≤ l.length) : (filled l i).length = l.length := by simp [filled]; omega
theorem filled_next {l : List Int} {i : Nat} (h : i < l.length) : (filled l i).set i (wide (l.getD i 0)) = filled l (i + 1) := by
  unfold filled
  rw [take_next h, List.map_append, List.set_append_right _ _ (by simp; omega)]
  have e : i - ((l.take i).map wide).length = 0 := by simp; omega
  rw [e, show l.length - i = (l.length - (i + 1)) + 1 by omega, List.replicate_succ, List.set_cons_zero]
  simp
theorem filled_all (pen : Int) (l : List Int) : filled l l.length = scores pen [] l := by
  unfold filled scores
  rw [Nat.sub_self, List.take_length, List.replicate_zero, List.append_nil]
  apply List.ext_getElem?
  intro j
  by_cases h : j < l.length
  · simp [h, scoreAt]
  · rw [List.getElem?_eq_none (by simp; omega), List.getElem?_eq_none (by simp; omega)]
def Scored (w : World) (l : List Int) (e : Ending) (w' : World) : Prop := ∃ A c, e = .returned (.slice A l.length c) ∧ l.length ≤ c ∧ kI.C w' A l.length l ∧ Below w.heap.size w w'
set_option maxHeartbeats 1000000 in
set_option maxRecDepth 100000 in
theorem scores_calls (p : Par) (A : Option Addr) (c : Nat) (l : List Int) (A2 : Option Addr) (c2 : Nat) (sn : List Int) (w : World) (hA : kI.C w A l.length l) (hB : kI.C w A2 sn.length sn) (hl : l.length * 8 ≤ 140737488355328) (hs : sn.length * 8 ≤ 140737488355328) (hwf : ∀ x ∈ sn, (Lit.int .i64 x).wf = true) (hN : 64 ≤ p.N ∧ p.N ≤ 1024) :
    Calls Tryd.prog 34 #[p.v, .slice A l.length c, .slice A2 sn.length c2] w (Scored w (scores p.N sn l)) := by
  obtain ⟨T, K, P, pen, S⟩ := p
  dsimp only at hN ⊢
  unfold Par.v
  dsimp only
  obtain ⟨n, hn⟩ : ∃ n, n = l.length := ⟨_, rfl⟩
  obtain ⟨m, hm⟩ : ∃ m, m = sn.length := ⟨_, rfl⟩
  have HCL : Aside0 (∀ x W, Calls Tryd.prog 54 #[.int .i64 x, .int .i64 16777216] W (fun e w' => e = .returned (.int .i64 (wide x)) ∧ Below W.heap.size W w')) := ⟨fun x W => clamp_calls x 16777216 W (by omega)⟩
  rw [← hn] at hA ⊢
  rw [← hm] at hB ⊢
  have hnb : n ≤ 17592186044416 := by omega
  have hmb : m ≤ 17592186044416 := by omega
  have m1 := print_make (P := Tryd.prog) 25 2 .i64 8 Tryd.underlying25 infoI64 (by omega) n (by omega)
  have HA := Aside0.mk hA
  have HB := Aside0.mk hB
  have HN := Aside0.mk hn
  have HM := Aside0.mk hm
  have HW := Aside0.mk hwf
  have HP := Aside0.mk hN
  clear hA hB hn hm hwf hN hl hs
  go_enter Tryd.func34, Tryd.ntmps34
  go_upto_region 2 with fail
  refine name_world (X := fun w1 => Code.wp _ _ _ _ w1) fun w1 hw1 => ?_
  obtain ⟨g, hg⟩ : ∃ g, g = w.heap.size + 1 := ⟨_, rfl⟩
  obtain ⟨bx, hbx⟩ : ∃ bx, bx = w.heap.size := ⟨_, rfl⟩
  have hrow : w1.ownsRow w.heap.size 2 1 (.slice (some ⟨g, 0, none⟩) n n) n (nums .i64 (filled l 0)) := by
    rw [hw1, hg]
    have h := own_made (w.alloc (.cells #[.int .i64 T, .int .i64 K, .int .i64 P, .int .i64 pen, .int .u64 S] 24)) w.heap.size 2 .i64 n (by simp) (by omega)
    simp only [World.size_alloc] at h
    have e : filled l 0 = List.replicate n 0 := by unfold filled; rw [List.take_zero, Nat.sub_zero, ← HN.out]; rfl
    rw [e]
    exact h
  have hb1 : Below w.heap.size w w1 := by rw [hw1]; exact ((Below.refl _ _).alloc (Nat.le_refl _) _).alloc (by simp) _
  have hbox : w1.cell? ⟨bx, 3, none⟩ = some (.int .i64 pen) := by rw [hw1, hbx]; simp [go_sem]
  have hsz : g < w1.heap.size := by rw [hw1, hg]; simp
  rw [← hg, ← hbx]
  have HROW := Aside0.mk hrow
  have HB1 := Aside0.mk hb1
  have HBOX := Aside0.mk hbox
  have HSZ := Aside0.mk hsz
  have HG := Aside0.mk hg
  have HBX := Aside0.mk hbx
  clear hw1 hrow hb1 hbox hsz hg hbx m1
  go_wp2_with fail
  go_loopg [18] n (fun gk v18 wr => ∃ i : Nat, v18 = .int .i64 i ∧ i ≤ n ∧ n ≤ i + gk ∧ Aside0 (wr.ownsRow w.heap.size 2 1 (.slice (some ⟨g, 0, none⟩) n n) n (nums .i64 (filled l i))) ∧ Aside0 (Ap (fun k => k = g) w1 wr))
  case atStart => exact ⟨0, rfl, by omega, by omega, HROW, ⟨Ap.refl _ _⟩⟩
  case round =>
    clear HROW
    obtain ⟨i, rfl, hi, hgg, HR, HPr⟩ := hrel
    have hbr : Below w.heap.size w wr := Ap.below HB1.out HPr.out (fun k hk => by have := HG.out; omega) HB1.out.size
    have HBR := Aside0.mk hbr
    by_cases hlt : i < n
    · obtain ⟨ad, rfl, h7⟩ := C_nat (Kd.C_below HA.out hbr) i hlt
      obtain ⟨x, hx⟩ : ∃ x, l.getD i 0 = x := ⟨_, rfl⟩
      rw [hx] at h7
      have HX := Aside0.mk hx
      clear hx hbr
      go_wp2_with (go_at_call 54; (with_reducible refine Calls.mono (HCL.out x _) ?_); rintro e w2 ⟨rfl, hb⟩; have HR2 := Aside0.mk (pw_own_below HR.out hb); have HP2 := Aside0.mk (HPr.out.trans (Ap.of_below hb)); obtain ⟨hsc, hsf⟩ := own_at HR2.out (i : Int) (by omega) (by omega); rw [Int.toNat_natCast] at hsc hsf; clear hb)
      go_roundg (n - (i + 1))
      case measure => omega
      case rel =>
        refine ⟨i + 1, by first | rfl | (simp; done), by omega, by omega, ⟨?_⟩, ⟨HP2.out.setCell (p := ⟨g, i, none⟩) (.inl rfl) _⟩⟩
        have h := HR2.out
        have hfl : (filled l i).length = n := by rw [filled_len (by rw [← HN.out]; omega), HN.out]
        have h2 := own_put (by rw [hfl]; exact h) (i : Int) (wide x)
        rw [Int.toNat_natCast, ← HX.out, filled_next (by rw [← HN.out]; exact hlt)] at h2
        have hfl2 : (filled l (i + 1)).length = n := by rw [filled_len (by rw [← HN.out]; omega), HN.out]
        simp only [hfl, hfl2] at h2
        rw [← HX.out]
        exact h2
    · obtain rfl : i = n := by omega
      clear hbr
      have hr0 := HR.out
      rw [HN.out, filled_all pen l, ← HN.out] at hr0
      have HR0 := Aside0.mk hr0
      have HBOX2 : Aside0 (wr.cell? ⟨bx, 3, none⟩ = some (.int .i64 pen)) := ⟨HPr.out.cell HBOX.out (fun h => by have := HG.out; have := HBX.out; simp at h; omega)⟩
      clear hr0 HR
      have hmm := @run_makeMap Tryd.prog
      go_upto_region 8 with fail
      clear hmm
      refine name_world (X := fun w1 => Code.wp _ _ _ _ w1) fun w2 hw2 => ?_
      obtain ⟨mb, hmb2⟩ : ∃ mb, mb = wr.heap.size := ⟨_, rfl⟩
      have hmap : HasMap Tryd.prog 3 (Value.int .i64) (Value.int .i64) w2 mb ([] : List (Int × Int)) := by rw [hw2, hmb2]; exact HasMap.made wr _ _ _ _
      have hrow2 : w2.ownsRow w.heap.size 2 1 (.slice (some ⟨g, 0, none⟩) i i) i (nums .i64 (scores pen [] l)) := by rw [hw2]; exact pw_own_below HR0.out (below_alloc (Below.refl _ _) _)
      have hbx2 : w2.cell? ⟨bx, 3, none⟩ = some (.int .i64 pen) := by rw [hw2]; exact pw_cell_below (below_alloc (Below.refl _ _) _) HBOX2.out
      have hbw2 : Below w.heap.size w w2 := by rw [hw2]; exact HBR.out.alloc HBR.out.size _
      have hgm : g < mb := by rw [hmb2]; have h1 := HSZ.out; have h2 := HPr.out.size; omega
      have hmsz : mb < w2.heap.size := by rw [hw2, hmb2]; simp
      rw [← hmb2]
      have HMAP := Aside0.mk hmap
      have HROW2 := Aside0.mk hrow2
      have HBX2 := Aside0.mk hbx2
      have HBW2 := Aside0.mk hbw2
      have HGM := Aside0.mk hgm
      have HMSZ := Aside0.mk hmsz
      clear hw2 hmap hrow2 hbx2 hbw2 hgm hmsz hmb2 HR0 HBOX2 HBR HPr HBOX
      go_wp2_with fail
      go_loopg [32] m (fun gk v32 wq => ∃ (j : Nat) (M : List (Int × Int)), v32 = .int .i64 j ∧ j ≤ m ∧ m ≤ j + gk ∧ Aside0 (wq.ownsRow w.heap.size 2 1 (.slice (some ⟨g, 0, none⟩) i i) i (nums .i64 (scores pen (sn.take j) l))) ∧ Aside0 (HasMap Tryd.prog 3 (Value.int .i64) (Value.int .i64) wq mb M ∧ ∀ k, (lget M k).getD 0 = ((sn.take j).count k : Int)) ∧ Aside0 (Ap (fun k => k = g ∨ k = mb) w2 wq))
      case atStart => exact ⟨0, [], rfl, by omega, by omega, HROW2, ⟨HMAP.out, fun k => rfl⟩, ⟨Ap.refl _ _⟩⟩
      case round =>
        clear HROW2 HMAP
        obtain ⟨j, M, rfl, hj, hg2, HRq, HMq, HPq⟩ := hrel
        have hbq : Below w.heap.size w wr := Ap.below HBW2.out HPq.out (fun k hk => by have := HG.out; have := HGM.out; omega) HBW2.out.size
        have HBQ := Aside0.mk hbq
        by_cases hlt2 : j < m
        · obtain ⟨ad, rfl, h7⟩ := C_nat (Kd.C_below HB.out hbq) j hlt2
          obtain ⟨t, ht⟩ : ∃ t, sn.getD j 0 = t := ⟨_, rfl⟩
          rw [ht] at h7
          have htw := HW.out t (by rw [← ht, List.getD_eq_getElem?_getD, List.getElem?_eq_getElem (by rw [← HM.out]; exact hlt2)]; exact List.getElem_mem _)
          have hnx : sn.take (j + 1) = sn.take j ++ [t] := by rw [take_next (by rw [← HM.out]; exact hlt2), ht]
          obtain ⟨q, hq⟩ : ∃ q, q = (sn.take j).count t := ⟨_, rfl⟩
          have hqm : q ≤ m := by
            rw [hq]
            have h1 := List.count_le_length (a := t) (l := sn.take j)
            rw [List.length_take] at h1
            omega
          have hlk : (Instr.lookup 81 (.map (some mb)) (.int .i64 t) false).run Tryd.prog wr = .ok (.int .i64 q) wr := by
            have h := HasMap.look (t := 81) HMq.out.1 (Maps.int_keyed Tryd.underlying3) Tryd.underlying81 (zero_int _) int_inj (key_int htw) false
            have h2 := HMq.out.2 t
            rw [← hq] at h2
            rw [h]
            cases hl : lget M t with
            | none => rw [hl] at h2; simp at h2; simp [← h2]
            | some v => rw [hl] at h2; simp at h2; simp [h2]
          have HKT := Aside0.mk (key_int htw)
          have HQ := Aside0.mk hq
          have HNX := Aside0.mk hnx
          clear ht htw hnx hq hbq
          go_upto_region 12 with (at_mapUpdate; refine wpList_store _ rfl _ _ _ 81 3 rfl (Maps.int_keyed Tryd.underlying3) Tryd.underlying81 int_inj rfl HMq.out.1 t rfl HKT.out ((q : Int) + 1) rfl ?_; intro w3 hm3 ht3)
          have hg3 := ht3.grown
          have hro3 : w3.ownsRow w.heap.size 2 1 (.slice (some ⟨g, 0, none⟩) i i) i (nums .i64 (scores pen (sn.take j) l)) := HRq.out.kept hg3 (.inr (by simp [Value.ownBlock]; have := HGM.out; omega))
          have hap3 : Ap (fun k => k = g ∨ k = mb) w2 w3 := HPq.out.grown hg3 (fun k e => by cases e; exact .inl (.inr rfl))
          have hb3 : w3.cell? ⟨bx, 3, none⟩ = some (.int .i64 pen) := hap3.cell HBX2.out (fun h => by have := HG.out; have := HBX.out; have := HGM.out; simp at h; omega)
          have hlt3 := HasMap.look (t := 81) hm3 (Maps.int_keyed Tryd.underlying3) Tryd.underlying81 (zero_int _) int_inj HKT.out false
          have hcnt : ∀ k, (lget (lput M t ((q : Int) + 1)) k).getD 0 = ((sn.take (j + 1)).count k : Int) := fun k => by
            rw [lget_lput HMq.out.1.nodup, HNX.out, List.count_append]
            by_cases e : k = t
            · subst e
              rw [if_pos rfl, List.count_singleton_self, ← HQ.out]
              simp
            · rw [if_neg e, HMq.out.2 k]
              have : List.count k [t] = 0 := by rw [List.count_eq_zero]; simp; exact e
              rw [this, Nat.add_zero]
          have hlk3 : (Instr.lookup 81 (.map (some mb)) (.int .i64 t) false).run Tryd.prog w3 = .ok (.int .i64 ((q : Int) + 1)) w3 := by
            have h := HasMap.look (t := 81) hm3 (Maps.int_keyed Tryd.underlying3) Tryd.underlying81 (zero_int _) int_inj HKT.out false
            rw [lget_lput HMq.out.1.nodup, if_pos rfl] at h
            simpa using h
          have HM3 := Aside0.mk hm3
          have HR3 := Aside0.mk hro3
          have HP3 := Aside0.mk hap3
          have HB3 := Aside0.mk hb3
          have HC3 := Aside0.mk hcnt
          clear hg3 ht3 hm3 hro3 hap3 hb3 hlt3 hcnt hlk h7
          by_cases ht0 : t < 0
          · go_wp2_with fail
            go_roundg (m - (j + 1))
            case measure => omega
            case rel => exact ⟨j + 1, _, by first | rfl | (simp; done), by omega, by omega, ⟨by rw [HNX.out, scores_same (sn' := sn.take j) (fun k hk => by simp; omega)]; exact HR3.out⟩, ⟨HM3.out, HC3.out⟩, HP3⟩
          · by_cases htn : (i : Int) ≤ t
            · go_wp2_with fail
              go_roundg (m - (j + 1))
              case measure => omega
              case rel => exact ⟨j + 1, _, by first | rfl | (simp; done), by omega, by omega, ⟨by rw [HNX.out, scores_same (sn' := sn.take j) (fun k hk => by rw [← HN.out] at hk; simp; omega)]; exact HR3.out⟩, ⟨HM3.out, HC3.out⟩, HP3⟩
            · obtain ⟨z, rfl⟩ : ∃ z : Nat, t = (z : Int) := ⟨t.toNat, by omega⟩
              have hz : z < i := by omega
              by_cases hq0 : q = 0
              · subst hq0
                have hnot : (z : Int) ∉ sn.take j := fun h => by
                  have h1 := HQ.out
                  have h2 := List.count_pos_iff.2 h
                  omega
                obtain ⟨hsc, hsf⟩ := own_at HR3.out (z : Int) (by omega) (by omega)
                obtain ⟨x, hx⟩ : ∃ x, wide (l.getD z 0) = x := ⟨_, rfl⟩
                have hrd : rd (scores pen (sn.take j) l) (z : Int) = x := by
                  unfold rd
                  rw [Int.toNat_natCast, scores_get (by rw [← HN.out]; exact hz)]
                  unfold scoreAt
                  rw [if_neg hnot, hx]
                rw [hrd, Int.toNat_natCast] at hsc
                rw [Int.toNat_natCast] at hsf
                have hxr : -16777216 ≤ x ∧ x ≤ 16777216 := by rw [← hx]; exact wide_range _
                have hput : ∀ (r : Nat) (u : Int), u = seenf pen x → ((w3.drewN r).setCell ⟨g, z, none⟩ (.int .i64 u)).ownsRow w.heap.size 2 1 (.slice (some ⟨g, 0, none⟩) i i) i (nums .i64 (scores pen (sn.take (j + 1)) l)) := fun r u hu => by
                  have hsl : ∀ sn', (scores pen sn' l).length = i := fun sn' => by rw [scores_len, HN.out]
                  have h2 := own_put (W := w3.drewN r) (by rw [hsl]; exact pw_own_below HR3.out (pw_below_drewN (Below.refl _ _) r)) (z : Int) u
                  rw [Int.toNat_natCast, hu, ← hx, scores_next (by rw [← HN.out]; exact hz), ← HNX.out] at h2
                  simp only [hsl] at h2
                  rw [hu, ← hx]
                  exact h2
                have hset : ∀ (r : Nat) (u : Value), Ap (fun k => k = g ∨ k = mb) w2 ((w3.drewN r).setCell ⟨g, z, none⟩ u) := fun r u => (HP3.out.drewN r).setCell (p := ⟨g, z, none⟩) (.inl (.inl rfl)) u
                have hmset : ∀ (r : Nat) (u : Value), HasMap Tryd.prog 3 (Value.int .i64) (Value.int .i64) ((w3.drewN r).setCell ⟨g, z, none⟩ u) mb (lput M (z : Int) (((0 : Nat) : Int) + 1)) := fun r u => (HM3.out.drewN r).setCell (a := ⟨g, z, none⟩) (by have := HGM.out; simp; omega) u
                have HPUT := Aside0.mk hput
                have HSET := Aside0.mk hset
                have HMSET := Aside0.mk hmset
                have hbc := HB3.out
                clear hput hset hmset hrd hx hnot
                by_cases hx0 : 0 < x
                · obtain ⟨y, hy⟩ : ∃ y, x * 256 = y := ⟨_, rfl⟩
                  have v1 : wrap64 y = y := by unfold wrap64; omega
                  have v2 : IntKind.i64.wrap y = y := by rw [IntWalk.i64_left]; exact v1
                  have HD : Aside0 (∀ W, Calls Tryd.prog 55 #[.int .i64 y, .int .i64 pen] W (Says (.int .i64 (y / pen)) W)) := ⟨fun W => div_calls y pen W (by omega) (by have := HP.out; omega)⟩
                  have HU : Aside0 (y / pen = seenf pen x) := ⟨by unfold seenf; rw [if_pos hx0, hy]⟩
                  clear hxr
                  go_wp2_with fail
                  go_region_with (first | (go_at_call 55; (with_reducible refine Calls.mono (HD.out _) ?_); rintro e w9 ⟨rfl, q9, rfl⟩) | fail)
                  all_goals
                    go_wp2_with fail
                    go_roundg (m - (j + 1))
                    case measure => omega
                    case rel => exact ⟨j + 1, _, by first | rfl | (simp; done), by omega, by omega, ⟨HPUT.out _ _ HU.out⟩, ⟨HMSET.out _ _, HC3.out⟩, ⟨HSET.out _ _⟩⟩
                · obtain ⟨y, hy⟩ : ∃ y, x * pen = y := ⟨_, rfl⟩
                  have hyr : -17179869184 ≤ y ∧ y ≤ 0 := by
                    have h1 := HP.out
                    rw [← hy]
                    have h2 : (-x) * pen ≤ 16777216 * 1024 := Int.mul_le_mul (by omega) h1.2 (by omega) (by omega)
                    have h3 : 0 ≤ (-x) * pen := Int.mul_nonneg (by omega) (by omega)
                    rw [Int.neg_mul] at h2 h3
                    omega
                  have v1 : wrap64 y = y := by unfold wrap64; omega
                  have v2 : IntKind.i64.wrap y = y := by rw [IntWalk.i64_left]; exact v1
                  have HD : Aside0 (∀ W, Calls Tryd.prog 56 #[.int .i64 y, .int .i64 8] W (Says (.int .i64 (shf y 8)) W)) := ⟨fun W => shift_calls y 8 (by omega) (by omega) W⟩
                  have HU : Aside0 (shf y 8 = seenf pen x) := ⟨by unfold seenf; rw [if_neg hx0, hy]⟩
                  clear hxr hyr
                  go_wp2_with fail
                  go_region_with (first | (go_at_call 56; (with_reducible refine Calls.mono (HD.out _) ?_); rintro e w9 ⟨rfl, q9, rfl⟩) | fail)
                  all_goals
                    go_wp2_with fail
                    go_roundg (m - (j + 1))
                    case measure => omega
                    case rel => exact ⟨j + 1, _, by first | rfl | (simp; done), by omega, by omega, ⟨HPUT.out _ _ HU.out⟩, ⟨HMSET.out _ _, HC3.out⟩, ⟨HSET.out _ _⟩⟩
              · have hin : (z : Int) ∈ sn.take j := by
                  have h1 := HQ.out
                  exact List.count_pos_iff.1 (by omega)
                have d1 : decide (1 < (q : Int) + 1) = true := by simp; omega
                go_wp2_with fail
                go_roundg (m - (j + 1))
                case measure => omega
                case rel => exact ⟨j + 1, _, by first | rfl | (simp; done), by omega, by omega, ⟨by rw [HNX.out, scores_same (sn' := sn.take j) (fun k hk => by simp; intro e; rw [e]; exact hin)]; exact HR3.out⟩, ⟨HM3.out, HC3.out⟩, HP3⟩
        · obtain rfl : j = m := by omega
          have hr0 := HRq.out
          rw [HM.out, List.take_length] at hr0
          have hsl : (scores pen sn l).length = i := by rw [scores_len, HN.out]
          clear hbq
          go_wp2_with fail
          go_ret
          have hr1 : wr.ownsRow w.heap.size 2 1 (.slice (some ⟨g, 0, none⟩) i i) i (nums .i64 (scores pen sn l)) := hr0
          obtain ⟨A9, c9, e9, hR⟩ := own_reads hr1
          have hcap : i ≤ c9 := by cases e9; exact Nat.le_refl _
          have hC := Kd.C_of_reads (h1 := fun _ => rfl) hR
          refine ⟨A9, c9, by rw [hsl, ← e9]; rfl, by rw [hsl]; exact hcap, by rw [hsl]; exact hC, HBQ.out⟩
#print axioms scores_calls
end Go.Proofs.YtfnphepiopncbaaDoor.Pick
namespace Go.Proofs.YtfnphepiopncbaaDoor.Pick
open Go.RowKit Go.Proofs.YtfnphepiopncbaaDoorW.PrintWords Go.Proofs.YtfnphepiopncbaaDoorW.PrintLast Go.Proofs.YtfnphepiopncbaaDoorW.PrintMore Go.Proofs.YtfnphepiopncbaaDoor.Srt
open Go.Proofs.YtfnphepiopncbaaDoor.PPickChooses (S45 z45 k45 k45_mk pick_total.f pick_total.l0 pick_total.calls rd_T45)
attribute [local go_sem] max2_int min2_int max_two min_two max_three min_three max_four min_four
set_option linter.unusedVariables false
set_option linter.unusedSimpArgs false

/-- 'xs[:j]' within the capacity. -/
theorem cut_hi {P : Program} (t e : TypeId) (kh : IntKind) {i : TypeInfo} (ht : P.underlying t = some (.slice e)) (hi : P.info? e = some i) (A : Option Addr) (n c : Nat) (j : Int) (h0 : 0 ≤ j) (hm : j ≤ c) :
    ∀ W : World, (Instr.slice t (.slice A n c) none (some (.int kh j)) none).run P W = .ok (.slice A j.toNat c) W := by
  intro W
  have hel : P.elem t = e := by simp [Program.elem, ht]
  have hu : P.underlying t = some (.slice (P.elem t)) := by rw [hel]; exact ht
  have ha : (A.map fun x => x.add 0) = A := by cases A <;> simp [Addr.add]
  rw [run_slice_h W t A n c hu kh j h0 hm, hel]
  simp [sizeOf, typeInfo, hi, sliced, Result.andThen, ha]
theorem infoCh : (Tryd.prog.info? 45).map (fun i => (i.zero, i.size, i.bytes)) = some (some (.agg #[.int .i64 0, .int .i64 0]), 2, 16) := by kernel_rfl

/-- A list of chances in memory that may be written. -/
def Chs (w : World) (A : Option Addr) (xs : List S45) : Prop := ∀ i, i < xs.length → ∃ g, A = some ⟨g, 0, none⟩ ∧ w.cell? ⟨g, i * 2, none⟩ = some (.int .i64 (xs.getD i z45).f0) ∧ w.cell? ⟨g, i * 2 + 1, none⟩ = some (.int .i64 (xs.getD i z45).f1) ∧ w.frozen? ⟨g, i * 2 + 1, none⟩ = false
/-- The block that a list lies in. -/
def Of (A : Option Addr) (k : Nat) : Prop := ∃ ad, A = some ad ∧ ad.block = k
theorem Chs.take {w : World} {A : Option Addr} {xs : List S45} (h : Chs w A xs) (j : Nat) : Chs w A (xs.take j) := by
  intro i hi
  rw [List.length_take] at hi
  obtain ⟨g, e, h1, h2, h3⟩ := h i (by omega)
  have : (xs.take j).getD i z45 = xs.getD i z45 := by rw [List.getD_eq_getElem?_getD, List.getD_eq_getElem?_getD, List.getElem?_take, if_pos (by omega)]
  rw [this]
  exact ⟨g, e, h1, h2, h3⟩
theorem Chs.below {w w' : World} {A : Option Addr} {xs : List S45} (h : Chs w A xs) (hb : Below w.heap.size w w') : Chs w' A xs := by
  intro i hi
  obtain ⟨g, e, h1, h2, h3⟩ := h i hi
  have hlt : g < w.heap.size := World.block_lt_of_cell? w _ h1
  exact ⟨g, e, pw_cell_below hb h1, pw_cell_below hb h2, by rw [hb.frozen (p := ⟨g, i * 2 + 1, none⟩) hlt]; exact h3⟩
theorem Chs.drewN {w : World} {A : Option Addr} {xs : List S45} (h : Chs w A xs) (q : Nat) : Chs (w.drewN q) A xs := h
/-- One weight written. -/
theorem Chs.set {w : World} {g : Nat} {xs : List S45} (h : Chs w (some ⟨g, 0, none⟩) xs) (j : Nat) (hj : j < xs.length) (u : Int) : Chs (w.setCell ⟨g, j * 2 + 1, none⟩ (.int .i64 u)) (some ⟨g, 0, none⟩) (xs.set j ⟨(xs.getD j z45).f0, u⟩) := by
  intro i hi
  rw [List.length_set] at hi
  obtain ⟨g', e, h1, h2, h3⟩ := h i hi
  cases e
  refine ⟨g, rfl, ?_, ?_, by rw [World.frozen?_setCell]; exact h3⟩
  · rw [World.cell?_setCell_other _ _ _ _ (by intro e; injection e; omega), h1]
    by_cases e : j = i
    · subst e
      simp [List.getD_eq_getElem?_getD, hi]
    · rw [List.getD_eq_getElem?_getD, List.getD_eq_getElem?_getD, List.getElem?_set_ne e]
  · by_cases e : j = i
    · subst e
      have hs : (w.setCell ⟨g, j * 2 + 1, none⟩ (.int .i64 u)).cell? ⟨g, j * 2 + 1, none⟩ = some (.int .i64 u) := World.cell?_setCell_same _ _ _ h2
      rw [hs]
      simp [List.getD_eq_getElem?_getD, hi]
    · rw [World.cell?_setCell_other _ _ _ _ (by intro e; injection e; omega), h2, List.getD_eq_getElem?_getD, List.getD_eq_getElem?_getD, List.getElem?_set_ne e]
theorem Chs.C {w : World} {A : Option Addr} {xs : List S45} (h : Chs w A xs) (hl : xs.length ≤ 9223372036854775807) : Kd.C k45 w A xs.length xs := by
  refine ⟨rfl, hl, fun hp => ?_⟩
  obtain ⟨g, e, _⟩ := h 0 hp
  refine ⟨⟨g, 0, none⟩, e, fun j p hj => ?_⟩
  have hjl : j < xs.length := by
    rcases Nat.lt_or_ge j xs.length with h1 | h1
    · exact h1
    · rw [List.getElem?_eq_none h1] at hj; cases hj
  obtain ⟨g', e', h1, h2, _⟩ := h j hjl
  rw [e] at e'
  cases e'
  have hp : xs.getD j z45 = p := by rw [List.getD_eq_getElem?_getD, hj]; rfl
  rw [hp] at h1 h2
  refine ⟨[.int .i64 p.f0, .int .i64 p.f1], rfl, k45_mk w p, fun i u hu => ?_⟩
  show w.cell? ((⟨g, 0, none⟩ : Addr).add (j * 2 + i)) = some u
  rw [add_plain]
  match i, hu with
  | 0, hu => cases hu; simpa using h1
  | 1, hu => cases hu; simpa using h2
def flat (xs : List S45) : List Value := (xs.map fun x => [Value.int .i64 x.f0, .int .i64 x.f1]).flatten
theorem flat_len (xs : List S45) : (flat xs).length = xs.length * 2 := by
  unfold flat
  induction xs with
  | nil => rfl
  | cons x xs ih => rw [List.map_cons, List.flatten_cons, List.length_append, ih]; simp; omega
theorem flat_get {xs : List S45} : ∀ {i : Nat}, i < xs.length → (flat xs)[i * 2]? = some (.int .i64 (xs.getD i z45).f0) ∧ (flat xs)[i * 2 + 1]? = some (.int .i64 (xs.getD i z45).f1) := by
  induction xs with
  | nil => intro i h; simp at h
  | cons x xs ih =>
    intro i h
    have e : flat (x :: xs) = [Value.int .i64 x.f0, .int .i64 x.f1] ++ flat xs := rfl
    cases i with
    | zero => exact ⟨rfl, rfl⟩
    | succ i =>
      rw [e, List.getElem?_append_right (by simp; omega), List.getElem?_append_right (by simp; omega)]
      have := ih (i := i) (by simpa using h)
      simpa [show (i + 1) * 2 - 2 = i * 2 by omega, show (i + 1) * 2 + 1 - 2 = i * 2 + 1 by omega] using this
theorem flat_append (xs : List S45) (x : S45) : flat (xs ++ [x]) = flat xs ++ [.int .i64 x.f0, .int .i64 x.f1] := by
  unfold flat
  rw [List.map_append, List.flatten_append]
  rfl
theorem Chs.of_row {w : World} {base : Nat} {v : Value} {xs : List S45} (h : w.ownsRow base 45 2 v xs.length (flat xs)) : ∃ A c, v = .slice A xs.length c ∧ xs.length ≤ c ∧ Chs w A xs ∧ ∀ k, Of A k → base ≤ k ∧ v.ownBlock = some k := by
  rcases Nat.eq_zero_or_pos xs.length with h0 | h0
  · obtain ⟨A, c, e⟩ := own_slice h
    refine ⟨A, c, e, by omega, fun i hi => by omega, ?_⟩
    rcases h.2 with ⟨rfl, _⟩ | ⟨g, cap, cur, rfl, hb, _⟩
    · injection e with e1
      subst e1
      rintro k ⟨ad, e, _⟩
      cases e
    · injection e with e1
      subst e1
      rintro k ⟨ad, e, rfl⟩
      cases e
      exact ⟨hb, rfl⟩
  · obtain ⟨g, cap, rfl, hb, hcap⟩ := h.form h0
    refine ⟨_, cap, rfl, own_cap h, fun i hi => ?_, ?_⟩
    · obtain ⟨f1, f2⟩ := flat_get hi
      have c1 := h.cells (g := g) rfl _ _ f1
      have c2 := h.cells (g := g) rfl _ _ f2
      rw [add_plain] at c1 c2
      refine ⟨g, rfl, by simpa using c1, by simpa using c2, ?_⟩
      rcases h.2 with ⟨h', _⟩ | ⟨g', cap', cur, h', _, hh, _⟩
      · cases h'
      · have : g = g' := by injection h' with h'; injection h' with h'; injection h' with h'
        subst this
        simp [World.frozen?, hh]
    · rintro k ⟨ad, e, rfl⟩
      cases e
      exact ⟨hb, rfl⟩
/-! ### total -/
def tot (xs : List S45) : Int := (xs.map (·.f1)).sum
def Wts (xs : List S45) : Prop := ∀ x ∈ xs, 0 ≤ x.f1 ∧ x.f1 ≤ 65536
theorem tot_range {xs : List S45} (h : Wts xs) : 0 ≤ tot xs ∧ tot xs ≤ 65536 * xs.length := by
  induction xs with
  | nil => exact ⟨by decide, by decide⟩
  | cons x xs ih =>
    have h1 := h x (by simp)
    have h2 := ih (fun y hy => h y (List.mem_cons_of_mem _ hy))
    have e : tot (x :: xs) = x.f1 + tot xs := by simp [tot]
    rw [e, List.length_cons]
    omega
theorem tot_append (xs ys : List S45) : tot (xs ++ ys) = tot xs + tot ys := by simp [tot]
theorem take_nextC {l : List S45} {i : Nat} (h : i < l.length) : l.take (i + 1) = l.take i ++ [l.getD i z45] := by
  rw [List.take_add_one, List.getElem?_eq_getElem h, List.getD_eq_getElem?_getD, List.getElem?_eq_getElem h]
  rfl
theorem Wts.take {xs : List S45} (h : Wts xs) (i : Nat) : Wts (xs.take i) := fun x hx => h x (List.mem_of_mem_take hx)
theorem total_loop (l : List S45) (hl : l.length ≤ 1048576) (hw : Wts l) : ∀ n i : Nat, i + n = l.length → Ev (fun k => pick_total.l0 k (tot (l.take i)) l (l.length : Int) (i : Int)) (tot l) := by
  intro n
  induction n with
  | zero =>
    intro i hi
    obtain rfl : i = l.length := by omega
    refine Ev.step (f := fun k => some (tot l)) (fun k => ?_) (Ev.now _)
    simp only [pick_total.l0]
    rw [if_neg (by omega), List.take_length]
  | succ n ih =>
    intro i hi
    refine Ev.step (f := fun k => pick_total.l0 k (tot (l.take (i + 1))) l (l.length : Int) ((i + 1 : Nat) : Int)) (fun k => ?_) (ih (i + 1) (by omega))
    have hr := tot_range (hw.take (i + 1))
    rw [List.length_take] at hr
    have e : tot (l.take (i + 1)) = tot (l.take i) + (l.getD i z45).f1 := by rw [take_nextC (by omega), tot_append]; simp [tot]
    have hr2 := tot_range (hw.take i)
    rw [List.length_take] at hr2
    simp only [pick_total.l0]
    rw [if_pos (by omega), if_pos (by omega), if_pos (by omega)]
    have e2 : rd_T45 l (i : Int) = l.getD i z45 := by unfold rd_T45; rw [Int.toNat_natCast]
    rw [e2, ← e]
    have e3 : wrap64 (tot (l.take (i + 1))) = tot (l.take (i + 1)) := by unfold wrap64; omega
    have e4 : wrap64 ((i : Int) + 1) = ((i + 1 : Nat) : Int) := by unfold wrap64; omega
    rw [e3, e4]
theorem total_calls (A : Option Addr) (c : Nat) (l : List S45) (w : World) (hC : Kd.C k45 w A l.length l) (hc : l.length ≤ c) (hl : l.length ≤ 1048576) (hw : Wts l) :
    Calls Tryd.prog 43 #[.slice A l.length c] w (fun e w' => e = .returned (.int .i64 (tot l)) ∧ Below w.heap.size w w') := by
  obtain ⟨k, hk⟩ : ∃ k, pick_total.f k l = some (tot l) := (Ev.congr (f := fun k => pick_total.l0 k (tot (l.take 0)) l (l.length : Int) ((0 : Nat) : Int)) (fun k => rfl) (total_loop l hl hw l.length 0 (by omega))).rounds
  exact pick_total.calls k A c l _ w hC hc hk
#print axioms total_calls

/-! ### the first two rules -/
def Thin (w : World) (A : Option Addr) (c : Nat) (xs : List S45) (b : Bool) (e : Ending) (w' : World) : Prop := e = .returned (.tuple #[.slice A xs.length c, .bool b]) ∧ Chs w' A xs ∧ Ap (Of A) w w'
def oneW (x : S45) : S45 := ⟨x.f0, 65536⟩
set_option maxHeartbeats 1000000 in
theorem rule1_pos (p : Par) (A : Option Addr) (c : Nat) (l : List S45) (w : World) (h : Chs w A l) (hT : 0 < p.T) : Calls Tryd.prog 57 #[p.v, .slice A l.length c] w (Thin w A c l false) := by
  obtain ⟨T, K, P, pen, S⟩ := p
  unfold Par.v
  dsimp only at *
  have HH := Aside0.mk h
  clear h
  go_enter Tryd.func57, Tryd.ntmps57
  go_wp2
  refine bodyPost_ret (results_tmp2 rfl _ _ _) rfl ?_
  exact ⟨rfl, HH.out.below (below_alloc (Below.refl _ _) _), Ap.of_below (below_alloc (Below.refl _ _) _)⟩
set_option maxHeartbeats 1000000 in
theorem rule2_calls (p : Par) (A : Option Addr) (c : Nat) (l : List S45) (w : World) (h : Chs w A l) (hc : l.length ≤ c) : Calls Tryd.prog 58 #[p.v, .slice A l.length c] w (Thin w A c (if 0 < p.K then l.take p.K.toNat else l) false) := by
  obtain ⟨T, K, P, pen, S⟩ := p
  unfold Par.v
  dsimp only at *
  have HH := Aside0.mk h
  by_cases hK : 0 < K
  · obtain ⟨n, hn⟩ : ∃ n, n = l.length := ⟨_, rfl⟩
    obtain ⟨i0, hi0, _, hsz0, _⟩ := info_parts infoCh
    rw [← hn] at hc ⊢
    obtain ⟨m, hm⟩ : ∃ m : Int, (if K < (n : Int) then K else (n : Int)) = m := ⟨_, rfl⟩
    have hm2 : 0 ≤ m ∧ m ≤ c ∧ m.toNat = (l.take K.toNat).length := by
      rw [List.length_take, ← hn, ← hm]
      split <;> omega
    have hcut := cut_hi (P := Tryd.prog) 32 45 .i64 Tryd.underlying32 hi0 A n c m hm2.1 hm2.2.1
    have hm3 : (if (n : Int) < K then (n : Int) else K) = m := by rw [← hm]; split <;> split <;> omega
    have HM := Aside0.mk hm2
    clear h hm2 hn hi0 hsz0
    rw [if_pos hK]
    go_enter Tryd.func58, Tryd.ntmps58
    go_wp2
    refine bodyPost_ret (results_tmp2 rfl _ _ _) rfl ?_
    exact ⟨by rw [← HM.out.2.2]; rfl, (HH.out.below (below_alloc (Below.refl _ _) _)).take _, Ap.of_below (below_alloc (Below.refl _ _) _)⟩
  · rw [if_neg hK]
    clear h
    go_enter Tryd.func58, Tryd.ntmps58
    go_wp2
    refine bodyPost_ret (results_tmp2 rfl _ _ _) rfl ?_
    exact ⟨rfl, HH.out.below (below_alloc (Below.refl _ _) _), Ap.of_below (below_alloc (Below.refl _ _) _)⟩
set_option maxHeartbeats 1000000 in
theorem rule1_none (p : Par) (A : Option Addr) (c : Nat) (w : World) (hT : p.T ≤ 0) : Calls Tryd.prog 57 #[p.v, .slice A 0 c] w (Thin w A c [] true) := by
  obtain ⟨T, K, P, pen, S⟩ := p
  unfold Par.v
  dsimp only at *
  have hT2 : ¬ 0 < T := by omega
  obtain ⟨i0, hi0, _, hsz0, _⟩ := info_parts infoCh
  have hcut := cut_hi (P := Tryd.prog) 32 45 .i64 Tryd.underlying32 hi0 A 0 c 0 (by omega) (by omega)
  clear hT hi0 hsz0
  go_enter Tryd.func57, Tryd.ntmps57
  go_wp2_with fail
  go_loopg [18] 0 (fun gk v18 wr => v18 = .int .i64 0 ∧ wr = w.alloc (.cells #[.int .i64 T, .int .i64 K, .int .i64 P, .int .i64 pen, .int .u64 S] 24))
  case atStart => exact ⟨rfl, rfl⟩
  case round =>
    obtain ⟨rfl, rfl⟩ := hrel
    go_wp2_with fail
    (try simp only [Exit.inBlock, Exit.then])
    refine bodyPost_ret (results_tmp2 rfl _ _ _) rfl ?_
    exact ⟨rfl, fun i hi => by simp at hi, Ap.of_below (below_alloc (Below.refl _ _) _)⟩
set_option maxHeartbeats 1000000 in
theorem rule1_some (p : Par) (A : Option Addr) (c : Nat) (x : S45) (l : List S45) (w : World) (h : Chs w A (x :: l)) (hc : (x :: l).length ≤ c) (hT : p.T ≤ 0) : Calls Tryd.prog 57 #[p.v, .slice A (x :: l).length c] w (Thin w A c [oneW x] true) := by
  obtain ⟨T, K, P, pen, S⟩ := p
  unfold Par.v
  dsimp only at *
  have hT2 : ¬ 0 < T := by omega
  obtain ⟨n, hn⟩ : ∃ n, n = (x :: l).length := ⟨_, rfl⟩
  obtain ⟨g, rfl, _⟩ := h 0 (by simp)
  have hH : Chs w (some ⟨g, 0, none⟩) [x] := h.take 1
  have hn1 : 1 ≤ n := by rw [hn]; simp
  rw [← hn] at hc ⊢
  obtain ⟨i0, hi0, _, hsz0, _⟩ := info_parts infoCh
  have hcut := cut_hi (P := Tryd.prog) 32 45 .i64 Tryd.underlying32 hi0 (some ⟨g, 0, none⟩) n c 1 (by omega) (by omega)
  have hm1 : (if (n : Int) < 1 then (n : Int) else 1) = 1 := by rw [if_neg (by omega)]
  have hm2 : (if (1 : Int) < (n : Int) then (1 : Int) else (n : Int)) = 1 := by split <;> omega
  have HH := Aside0.mk hH
  clear hT h hi0 hsz0 hn hH
  go_enter Tryd.func57, Tryd.ntmps57
  go_upto_region 4 with fail
  refine name_world (X := fun w1 => Code.wp _ _ _ _ w1) fun w1 hw1 => ?_
  have h1 : Chs w1 (some ⟨g, 0, none⟩) [x] := by rw [hw1]; exact HH.out.below (below_alloc (Below.refl _ _) _)
  have hb1 : Below w.heap.size w w1 := by rw [hw1]; exact below_alloc (Below.refl _ _) _
  obtain ⟨g', e, hc0, hc1, hf1⟩ := h1 0 (by simp)
  cases e
  have hc1' : w1.cell? ⟨g, 1, none⟩ = some (.int .i64 x.f1) := by simpa using hc1
  have hf1' : w1.frozen? ⟨g, 1, none⟩ = false := by simpa using hf1
  have H1 := Aside0.mk h1
  have HB1 := Aside0.mk hb1
  clear hw1 h1 hb1 hc0 hc1 hf1 hcut hm1 hm2
  go_wp2_with fail
  go_loopg [18] 1 (fun gk v18 wr => ∃ i : Nat, v18 = .int .i64 i ∧ i ≤ 1 ∧ 1 ≤ i + gk ∧ wr = (if i = 0 then w1 else w1.setCell ⟨g, 1, none⟩ (.int .i64 65536)))
  case atStart => exact ⟨0, rfl, by omega, by omega, rfl⟩
  case round =>
    obtain ⟨i, rfl, hi, hg, hwr⟩ := hrel
    rcases (show i = 0 ∨ i = 1 by omega) with rfl | rfl
    · obtain rfl : wr = w1 := hwr
      go_wp2_with fail
      go_roundg 0
      case measure => omega
      case rel => exact ⟨1, rfl, by omega, by omega, rfl⟩
    · have hwr2 : wr = w1.setCell ⟨g, 1, none⟩ (.int .i64 65536) := hwr
      have HWR := Aside0.mk hwr2
      clear hwr hwr2
      go_wp2_with fail
      (try simp only [Exit.inBlock, Exit.then])
      refine bodyPost_ret (results_tmp2 rfl _ _ _) rfl ?_
      rw [HWR.out]
      exact ⟨rfl, H1.out.set 0 (by simp) 65536, (Ap.of_below (own := Of (some ⟨g, 0, none⟩)) HB1.out).setCell (p := ⟨g, 1, none⟩) (.inl ⟨_, rfl, rfl⟩) _⟩
theorem rule1_zero (p : Par) (A : Option Addr) (c : Nat) (l : List S45) (w : World) (h : Chs w A l) (hc : l.length ≤ c) (hT : p.T ≤ 0) : Calls Tryd.prog 57 #[p.v, .slice A l.length c] w (Thin w A c ((l.take 1).map oneW) true) := by
  cases l with
  | nil => exact rule1_none p A c w hT
  | cons x l => exact rule1_some p A c x l w h hc hT
#print axioms rule1_zero
end Go.Proofs.YtfnphepiopncbaaDoor.Pick
namespace Go.Proofs.YtfnphepiopncbaaDoor.Pick
open Go.RowKit Go.Proofs.YtfnphepiopncbaaDoorW.PrintWords Go.Proofs.YtfnphepiopncbaaDoorW.PrintLast Go.Proofs.YtfnphepiopncbaaDoorW.PrintMore Go.Proofs.YtfnphepiopncbaaDoor.Srt
open Go.Proofs.YtfnphepiopncbaaDoor.PPickChooses (S45 z45 k45 k45_mk)
attribute [local go_sem] max2_int min2_int max_two min_two max_three min_three max_four min_four
set_option linter.unusedVariables false
set_option linter.unusedSimpArgs false

theorem Laid.ap {w w' : World} {own : Nat → Prop} (h : Laid w) (ha : Ap own w w') (h0 : ¬ own 0) (h1 : ¬ own 1) : Laid w' :=
  ⟨fun i hi => ha.cell (h.t i hi) h1, ha.cell h.s0 h0, ha.cell h.f0 h0, ha.cell h.s1 h0, ha.cell h.f1 h0, ha.cell h.s2 h0, ha.cell h.f2 h0⟩
/-- A chance's weight by its score. -/
def wtf (T w0 : Int) (x : S45) : S45 := ⟨x.f0, expf ((x.f1 - w0) * 16384 / T)⟩
def Scs (xs : List S45) : Prop := ∀ x ∈ xs, -67108864 ≤ x.f1 ∧ x.f1 ≤ 67108864
/-- From the m-th on they are done. -/
def mx (f : S45 → S45) (xs : List S45) (m : Nat) : List S45 := xs.take m ++ (xs.drop m).map f
theorem mx_len (f : S45 → S45) (xs : List S45) (m : Nat) : (mx f xs m).length = xs.length := by simp [mx]; omega
theorem mx_get {f : S45 → S45} {xs : List S45} {m i : Nat} (hi : i < m) (hm : m ≤ xs.length) : (mx f xs m).getD i z45 = xs.getD i z45 := by
  unfold mx
  rw [List.getD_eq_getElem?_getD, List.getD_eq_getElem?_getD, List.getElem?_append_left (by simp; omega), List.getElem?_take, if_pos hi]
theorem mx_all (f : S45 → S45) (xs : List S45) : mx f xs xs.length = xs := by simp [mx]
theorem mx_none (f : S45 → S45) (xs : List S45) : mx f xs 0 = xs.map f := by simp [mx]
theorem mx_next {f : S45 → S45} {xs : List S45} {m : Nat} (hm : m < xs.length) : (mx f xs (m + 1)).set m (f (xs.getD m z45)) = mx f xs m := by
  unfold mx
  have hl : (xs.take m).length = m := by rw [List.length_take]; omega
  rw [take_nextC hm, List.append_assoc, List.set_append_right _ _ (by omega), hl, Nat.sub_self]
  have e : xs.drop m = xs.getD m z45 :: xs.drop (m + 1) := by
    rw [List.drop_eq_getElem_cons hm]
    congr 1
    simp [List.getD_eq_getElem?_getD, hm]
  rw [e]
  rfl
theorem div_small {a b : Int} (h1 : -2199023255552 ≤ a) (h2 : a ≤ 2199023255552) (hb : 1 ≤ b) : -2199023255552 ≤ a / b ∧ a / b ≤ 2199023255552 := by
  constructor
  · rw [Int.le_ediv_iff_mul_le (by omega)]
    have := Int.mul_le_mul_of_nonneg_left hb (show (0 : Int) ≤ 2199023255552 by decide)
    omega
  · refine Int.le_of_lt_add_one ?_
    rw [Int.ediv_lt_iff_lt_mul (by omega)]
    have := Int.mul_le_mul_of_nonneg_left hb (show (0 : Int) ≤ 2199023255553 by decide)
    omega
set_option maxHeartbeats 600000 in
set_option maxRecDepth 100000 in
theorem rule3_calls (p : Par) (A : Option Addr) (c : Nat) (l : List S45) (w : World) (h : Chs w A l) (hT : 0 < p.T) (hl : l.length ≤ 1048576) (hS : Scs l) (hL : Laid w) (hA : ∀ k, Of A k → 2 ≤ k ∧ k < w.heap.size) :
    Calls Tryd.prog 59 #[p.v, .slice A l.length c] w (Thin w A c (l.map (wtf p.T (l.getD 0 z45).f1)) false) := by
  obtain ⟨T, K, P, pen, S⟩ := p
  unfold Par.v
  dsimp only at *
  obtain ⟨n, hn⟩ : ∃ n, n = l.length := ⟨_, rfl⟩
  obtain ⟨w0, hw0⟩ : ∃ w0, w0 = (l.getD 0 z45).f1 := ⟨_, rfl⟩
  rw [← hw0]
  obtain ⟨F, hF⟩ : ∃ F, F = wtf T w0 := ⟨_, rfl⟩
  rw [← hF]
  rw [← hn] at hl ⊢
  have HH := Aside0.mk h
  have HN := Aside0.mk hn
  have HSC := Aside0.mk hS
  have HLL := Aside0.mk hL
  have HA := Aside0.mk hA
  have HF := Aside0.mk hF
  have HW0 := Aside0.mk hw0
  obtain ⟨bx, hbx⟩ : ∃ bx, bx = w.heap.size := ⟨_, rfl⟩
  clear h hn hS hL hA hF hw0
  go_enter Tryd.func59, Tryd.ntmps59
  go_upto_region 2 with fail
  rw [← hbx]
  refine name_world (X := fun w1 => Code.wp _ _ _ _ w1) fun w1 hw1 => ?_
  have hb1 : Below w.heap.size w w1 := by rw [hw1]; exact below_alloc (Below.refl _ _) _
  have hbox : w1.cell? ⟨bx, 0, none⟩ = some (.int .i64 T) := by rw [hw1, hbx]; simp [go_sem]
  have HBX : Aside0 (¬ Of A bx) := ⟨fun h => by have := HA.out _ h; omega⟩
  have HB1 := Aside0.mk hb1
  have HBOX := Aside0.mk hbox
  clear hw1 hb1 hbox hbx
  go_loopg [6] n (fun gk v6 wr => ∃ m : Nat, v6 = .int .i64 ((m : Int) - 1) ∧ m ≤ n ∧ m ≤ gk ∧ Aside0 (Chs wr A (mx F l m)) ∧ Aside0 (Ap (Of A) w1 wr))
  case atStart => exact ⟨n, by first | rfl | (simp; done) | (unfold wrap64; congr 1; omega), by omega, by omega, ⟨by rw [HN.out, mx_all]; exact HH.out.below HB1.out⟩, ⟨Ap.refl _ _⟩⟩
  case round =>
    obtain ⟨m, hv, hm, hg, HC, HP⟩ := hrel
    cases m with
    | zero =>
      have hv2 : u6 = .int .i64 (-1) := by rw [hv]; rfl
      subst hv2
      clear hv
      go_wp2_with fail
      (try simp only [Exit.inBlock, Exit.then])
      refine bodyPost_ret (results_tmp2 rfl _ _ _) rfl ?_
      have hc := HC.out
      rw [mx_none] at hc
      exact ⟨by rw [List.length_map, ← HN.out]; rfl, hc, (Ap.of_below HB1.out).trans HP.out⟩
    | succ i =>
      have hv2 : u6 = .int .i64 (i : Int) := by rw [hv]; congr 1; omega
      subst hv2
      clear hv
      have hbr : wr.cell? ⟨bx, 0, none⟩ = some (.int .i64 T) := HP.out.cell HBOX.out HBX.out
      have hil : i < l.length := by rw [← HN.out]; omega
      obtain ⟨g, rfl, _, hci, hfi⟩ := HC.out i (by rw [mx_len]; exact hil)
      obtain ⟨g', e, _, hc0, _⟩ := HC.out 0 (by rw [mx_len]; omega)
      cases e
      rw [mx_get (by omega) (by omega)] at hci hc0
      rw [← HW0.out] at hc0
      have hc0' : wr.cell? ⟨g, 1, none⟩ = some (.int .i64 w0) := by simpa using hc0
      obtain ⟨x, hx⟩ : ∃ x, (l.getD i z45).f1 = x := ⟨_, rfl⟩
      rw [hx] at hci
      have hmem : ∀ j, j < l.length → l.getD j z45 ∈ l := fun j hj => by rw [List.getD_eq_getElem?_getD, List.getElem?_eq_getElem hj]; exact List.getElem_mem _
      have b1 := HSC.out _ (hmem i hil)
      have b2 := HSC.out _ (hmem 0 (by omega))
      rw [hx] at b1
      rw [← HW0.out] at b2
      obtain ⟨d, hd⟩ : ∃ d, x - w0 = d := ⟨_, rfl⟩
      obtain ⟨y, hy⟩ : ∃ y, d * 16384 = y := ⟨_, rfl⟩
      have v1 : wrap64 d = d := by unfold wrap64; omega
      have v2 : IntKind.i64.wrap d = d := by rw [IntWalk.i64_left]; exact v1
      have v3 : wrap64 y = y := by unfold wrap64; omega
      have v4 : IntKind.i64.wrap y = y := by rw [IntWalk.i64_left]; exact v3
      have hq := div_small (a := y) (b := T) (by omega) (by omega) (by omega)
      have hLr : Laid wr := (HLL.out.move HB1.out).ap HP.out (fun h => by have := (HA.out _ h).1; omega) (fun h => by have := (HA.out _ h).1; omega)
      have HD : Aside0 (∀ W, Calls Tryd.prog 55 #[.int .i64 y, .int .i64 T] W (Says (.int .i64 (y / T)) W)) := ⟨fun W => div_calls y T W (by omega) (by omega)⟩
      have HE : Aside0 (∀ r, Calls Tryd.prog 60 #[.int .i64 (y / T)] (wr.drewN r) (Says (.int .i64 (expf (y / T))) (wr.drewN r))) := ⟨fun r => exp_calls (y / T) (by omega) _ (hLr.drew r)⟩
      have HU : Aside0 (F (l.getD i z45) = ⟨(l.getD i z45).f0, expf (y / T)⟩) := ⟨by rw [HF.out]; unfold wtf; rw [hx, hd, hy]⟩
      obtain ⟨ev, hev⟩ : ∃ ev, expf (y / T) = ev := ⟨_, rfl⟩
      rw [hev] at HE HU
      obtain ⟨yq, hyq⟩ : ∃ yq, y / T = yq := ⟨_, rfl⟩
      rw [hyq] at HD HE
      clear hx b1 b2 hq hLr hev hyq hmem hc0
      have hin : i < n := by omega
      have h0n : 0 < n := by omega
      go_wp2_with fail
      refine QTail.region_tail 19 (by kernel_rfl) (by kernel_rfl) ?_
      simp only [List.take_succ_cons, List.take_zero, List.drop_succ_cons, List.drop_zero]
      repeat (quiet_step ((first | (go_at_call 55; refine Calls.quiet_of (HD.out _)) | (go_at_call 60; refine Calls.quiet_of (HE.out _)))))
      refine wpQuiet_nil ?_
      intro w' hw'
      obtain ⟨nq, rfl⟩ := hw'
      go_wp2_with fail
      go_roundg (gk - 1)
      case measure => omega
      case rel =>
        have hset := (HC.out.drewN nq).set i (by rw [mx_len]; exact hil) ev
        rw [mx_get (by omega) (by omega), ← HU.out, mx_next hil] at hset
        exact ⟨i, by first | rfl | (simp; done), by omega, by omega, ⟨hset⟩, ⟨(HP.out.drewN nq).setCell (p := ⟨g, i * 2 + 1, none⟩) (.inl ⟨_, rfl, rfl⟩) _⟩⟩
#print axioms rule3_calls
/-- So many first ones reach so much. -/
def cutN (most : Int) : Int → List S45 → Nat
  | _, [] => 0
  | have_, x :: xs => if have_ * 1000 < most then 1 + cutN most (have_ + x.f1) xs else 0
theorem cutN_le (most : Int) : ∀ (xs : List S45) (h : Int), cutN most h xs ≤ xs.length := by
  intro xs
  induction xs with
  | nil => intro h; exact Nat.le_refl _
  | cons x xs ih =>
    intro h
    unfold cutN
    have := ih (h + x.f1)
    rw [List.length_cons]
    split <;> omega
def thinN (P : Int) (xs : List S45) : Nat := cutN (tot xs * P) 0 xs
theorem drop_cons {l : List S45} {i : Nat} (h : i < l.length) : l.drop i = l.getD i z45 :: l.drop (i + 1) := by
  rw [List.drop_eq_getElem_cons h]
  congr 1
  simp [List.getD_eq_getElem?_getD, h]
set_option maxHeartbeats 2000000 in
set_option maxRecDepth 100000 in
theorem rule4_calls (p : Par) (A : Option Addr) (c : Nat) (l : List S45) (w : World) (h : Chs w A l) (hc : l.length ≤ c) (hl : l.length ≤ 1048576) (hW : Wts l) (hP : 1 ≤ p.P ∧ p.P ≤ 1000) :
    Calls Tryd.prog 61 #[p.v, .slice A l.length c] w (Thin w A c (l.take (thinN p.P l)) true) := by
  obtain ⟨T, K, P, pen, S⟩ := p
  unfold Par.v
  dsimp only at *
  obtain ⟨n, hn⟩ : ∃ n, n = l.length := ⟨_, rfl⟩
  have hC := h.C (by omega)
  have HT : Aside0 (∀ W, Below w.heap.size w W → Calls Tryd.prog 43 #[.slice A l.length c] W (fun e w' => e = .returned (.int .i64 (tot l)) ∧ Below W.heap.size W w')) := ⟨fun W hb => total_calls A c l W (Kd.C_below hC hb) hc hl hW⟩
  rw [← hn] at hl hc HT ⊢
  have hr := tot_range hW
  rw [← hn] at hr
  obtain ⟨t, ht⟩ : ∃ t, tot l = t := ⟨_, rfl⟩
  rw [ht] at hr HT
  obtain ⟨most, hmo⟩ : ∃ most, t * P = most := ⟨_, rfl⟩
  have hmr : 0 ≤ most ∧ most ≤ t * 1000 := by
    rw [← hmo]
    exact ⟨Int.mul_nonneg hr.1 (by omega), Int.mul_le_mul_of_nonneg_left hP.2 hr.1⟩
  have v1 : wrap64 most = most := by unfold wrap64; omega
  have v2 : IntKind.i64.wrap most = most := by rw [IntWalk.i64_left]; exact v1
  have HTH : Aside0 (thinN P l = cutN most 0 l) := ⟨by unfold thinN; rw [ht, hmo]⟩
  obtain ⟨N, hN⟩ : ∃ N, cutN most 0 l = N := ⟨_, rfl⟩
  have hNl : N ≤ n := by rw [← hN, hn]; exact cutN_le _ _ _
  rw [hN] at HTH
  have HH := Aside0.mk h
  have HN := Aside0.mk hn
  have HNN := Aside0.mk hN
  have HW := Aside0.mk hW
  have HR := Aside0.mk hr
  have HMR := Aside0.mk hmr
  have HTT := Aside0.mk ht
  obtain ⟨i0, hi0, _, hsz0, _⟩ := info_parts infoCh
  have HCUT : Aside0 (∀ W : World, (Instr.slice 32 (.slice A n c) none (some (.int .i64 N)) none).run Tryd.prog W = .ok (.slice A N c) W) := ⟨cut_hi (P := Tryd.prog) 32 45 .i64 Tryd.underlying32 hi0 A n c (N : Int) (by omega) (by omega)⟩
  obtain ⟨bx, hbx⟩ : ∃ bx, bx = w.heap.size := ⟨_, rfl⟩
  clear h hn hW hr hmr hN hi0 hsz0 ht hP hC
  go_enter Tryd.func61, Tryd.ntmps61
  go_upto_region 1 with fail
  rw [← hbx]
  refine name_world (X := fun w1 => Code.wp _ _ _ _ w1) fun w1 hw1 => ?_
  have hb1 : Below w.heap.size w w1 := by rw [hw1]; exact below_alloc (Below.refl _ _) _
  have hbox : w1.cell? ⟨bx, 2, none⟩ = some (.int .i64 P) := by rw [hw1, hbx]; simp [go_sem]
  have HB1 := Aside0.mk hb1
  clear hw1 hb1 hbx
  go_region_held3 (fun w' => w'.cell? ⟨bx, 2, none⟩ = some (.int .i64 P)) (first | go_keep | (exact pw_cell_below hbz (by assumption)) | fail) (first | (go_at_call 43; (with_reducible refine Calls.mono (HT.out _ ?_) ?_); (first | exact HB1.out | exact pw_below_drewN HB1.out _); rintro e w9 ⟨rfl, hbz⟩) | fail)
  have HB9 : Aside0 (Below w.heap.size w w9) := ⟨below_then (below_drew HB1.out) HB1.out.size hbz⟩
  have HH9 : Aside0 (Chs w9 A l) := ⟨HH.out.below HB9.out⟩
  clear hbz HT hbox HB1
  go_wp2_with fail
  go_loopg [7, 8] n (fun gk v7 v8 wr => ∃ (k : Nat) (h : Int), v8 = .int .i64 k ∧ v7 = .int .i64 h ∧ k ≤ n ∧ n ≤ k + gk ∧ Aside0 (h = tot (l.take k) ∧ k + cutN most h (l.drop k) = N) ∧ Aside0 (∃ q, wr = w9.drewN q))
  case atStart => exact ⟨0, 0, rfl, rfl, by omega, by omega, ⟨by simp [tot], by rw [List.drop_zero, HNN.out]; omega⟩, ⟨0, rfl⟩⟩
  case round =>
    obtain ⟨k, h, rfl, rfl, hk, hg, HI, HQ⟩ := hrel
    have hr2 := tot_range (HW.out.take k)
    rw [← HI.out.1, List.length_take, ← HN.out] at hr2
    have HCr : Aside0 (Chs wr A l) := ⟨by obtain ⟨q, e⟩ := HQ.out; rw [e]; exact HH9.out.drewN q⟩
    have HBr : Aside0 (Below w.heap.size w wr) := ⟨by obtain ⟨q, e⟩ := HQ.out; rw [e]; exact pw_below_drewN HB9.out q⟩
    obtain ⟨hm, hhm⟩ : ∃ hm, h * 1000 = hm := ⟨_, rfl⟩
    have v3 : wrap64 hm = hm := by unfold wrap64; omega
    have v4 : IntKind.i64.wrap hm = hm := by rw [IntWalk.i64_left]; exact v3
    by_cases hlt : hm < most
    · have hkn : k < n := by
        rcases Nat.lt_or_ge k n with h1 | h1
        · exact h1
        · exfalso
          have e : k = n := by omega
          have h2 := HI.out.1
          rw [e, HN.out, List.take_length, HTT.out] at h2
          have h3 := HMR.out.2
          omega
      obtain ⟨g, rfl, _, hci, _⟩ := HCr.out k (by rw [← HN.out]; exact hkn)
      have hx0 := HW.out (l.getD k z45) (by rw [List.getD_eq_getElem?_getD, List.getElem?_eq_getElem (by rw [← HN.out]; exact hkn)]; exact List.getElem_mem _)
      have hnx : tot (l.take (k + 1)) = h + (l.getD k z45).f1 := by rw [take_nextC (by rw [← HN.out]; exact hkn), tot_append, HI.out.1]; simp [tot]
      have hcn : k + 1 + cutN most (h + (l.getD k z45).f1) (l.drop (k + 1)) = N := by
        have h1 := HI.out.2
        rw [drop_cons (by rw [← HN.out]; exact hkn)] at h1
        unfold cutN at h1
        rw [if_pos (by omega)] at h1
        omega
      obtain ⟨x, hx⟩ : ∃ x, (l.getD k z45).f1 = x := ⟨_, rfl⟩
      rw [hx] at hci hx0 hnx hcn
      obtain ⟨hs, hhs⟩ : ∃ hs, h + x = hs := ⟨_, rfl⟩
      rw [hhs] at hnx hcn
      have v5 : wrap64 hs = hs := by unfold wrap64; omega
      have v6 : IntKind.i64.wrap hs = hs := by rw [IntWalk.i64_left]; exact v5
      have HX := Aside0.mk hnx
      have HY := Aside0.mk hcn
      clear hnx hcn hx0 hx hr2
      go_wp2_with fail
      go_roundg (n - (k + 1))
      case measure => omega
      case rel => exact ⟨k + 1, hs, by first | rfl | (simp; done), rfl, by omega, by omega, ⟨HX.out.symm, HY.out⟩, HQ⟩
    · have hkN : k = N := by
        have h1 := HI.out.2
        cases hd : l.drop k with
        | nil => rw [hd] at h1; simpa [cutN] using h1
        | cons y ys =>
          rw [hd] at h1
          unfold cutN at h1
          rw [if_neg (by omega)] at h1
          omega
      subst hkN
      have hcut := HCUT.out
      clear hr2
      go_wp2_with fail
      (try simp only [Exit.inBlock, Exit.then])
      refine bodyPost_ret (results_tmp2 rfl _ _ _) rfl ?_
      rw [HTH.out]
      have e : (l.take k).length = k := by rw [List.length_take, ← HN.out]; omega
      exact ⟨by rw [e]; rfl, HCr.out.take k, Ap.of_below HBr.out⟩
#print axioms rule4_calls
end Go.Proofs.YtfnphepiopncbaaDoor.Pick
namespace Go.Proofs.YtfnphepiopncbaaDoor.Pick
open Go.RowKit Go.Proofs.YtfnphepiopncbaaDoorW.PrintWords Go.Proofs.YtfnphepiopncbaaDoorW.PrintLast Go.Proofs.YtfnphepiopncbaaDoorW.PrintMore Go.Proofs.YtfnphepiopncbaaDoor.Srt
open Go.Proofs.YtfnphepiopncbaaDoor.PPickChooses (S45 z45 k45 k45_mk)
attribute [local go_sem] max2_int min2_int max_two min_two max_three min_three max_four min_four
set_option linter.unusedVariables false
set_option linter.unusedSimpArgs false

/-- Is a token allowed? -/
def mayb (al : List Bool) (t : Nat) : Bool := al.length == 0 || (decide (t < al.length) && al.getD t false)
set_option maxHeartbeats 1000000 in
theorem may_calls (bx c : Nat) (A : Option Addr) (al : List Bool) (t : Nat) (w : World) (hb : w.cell? ⟨bx, 0, none⟩ = some (.slice A al.length c)) (hC : Kd.bool.C w A al.length al) :
    Calls Tryd.prog 32 #[.int .i64 t, .pointer (some ⟨bx, 0, none⟩)] w (Says (.bool (mayb al t)) w) := by
  obtain ⟨n, hn⟩ : ∃ n, n = al.length := ⟨_, rfl⟩
  rw [← hn] at hb hC
  rcases Nat.eq_zero_or_pos n with h0 | h0
  · have e : mayb al t = true := by unfold mayb; rw [← hn, h0]; rfl
    rw [e]
    subst h0
    clear hn hC e
    go_enter Tryd.func32, Tryd.ntmps32
    go_wp2
    go_ret
    exact ⟨rfl, 0, rfl⟩
  · have hz : ((n : Int) == 0) = false := by simp; omega
    have hz2 : ¬ n = 0 := by omega
    by_cases ht : t < n
    · obtain ⟨ad, rfl, hc⟩ := Kd.at_bool hC (t : Int) (by omega) (by omega)
      rw [Int.toNat_natCast] at hc
      have e : mayb al t = rdOf false al (t : Int) := by
        unfold mayb rdOf
        rw [← hn, Int.toNat_natCast]
        simp [hz2, ht]
      rw [e]
      obtain ⟨b, hb2⟩ : ∃ b, rdOf false al (t : Int) = b := ⟨_, rfl⟩
      rw [hb2] at hc ⊢
      clear hn hC e hb2
      go_enter Tryd.func32, Tryd.ntmps32
      go_wp2
      go_ret
      exact ⟨rfl, 0, rfl⟩
    · have e : mayb al t = false := by
        unfold mayb
        rw [← hn]
        simp [hz2, ht]
      rw [e]
      clear hn hC e
      go_enter Tryd.func32, Tryd.ntmps32
      go_wp2
      go_ret
      exact ⟨rfl, 0, rfl⟩
#print axioms may_calls
def fv (f : Nat) : Value := .func (.func f) #[] #[]
set_option maxHeartbeats 1000000 in
theorem rules_calls (w : World) : Calls Tryd.prog 35 #[] w (fun e w' => ∃ g, e = .returned (.slice (some ⟨g, 0, none⟩) 4 4) ∧ w.heap.size ≤ g ∧ w'.cell? ⟨g, 0, none⟩ = some (fv 57) ∧ w'.cell? ⟨g, 1, none⟩ = some (fv 58) ∧ w'.cell? ⟨g, 2, none⟩ = some (fv 59) ∧ w'.cell? ⟨g, 3, none⟩ = some (fv 61) ∧ Below w.heap.size w w') := by
  go_enter Tryd.func35, Tryd.ntmps35
  go_wp2
  go_ret
  exact ⟨w.heap.size, rfl, Nat.le_refl _, by simp [go_sem, fv], by simp [go_sem, fv], by simp [go_sem, fv], by simp [go_sem, fv], below_alloc (Below.refl _ _) _⟩
#print axioms rules_calls
end Go.Proofs.YtfnphepiopncbaaDoor.Pick
