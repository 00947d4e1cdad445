/- fix.Shift and fix.Exp, draw.Mix, At and Below, over tables that are laid. Conditions: what the tables hold. -/
import Derived.Test.YtfnphepiopncbaaDoorPPickSoundx1
import Derived.Test.YtfnphepiopncbaaDoorSortA
namespace Go.Proofs.YtfnphepiopncbaaDoor.Pick
open Go.RowKit Go.Proofs.YtfnphepiopncbaaDoorW.PrintWords Go.Proofs.YtfnphepiopncbaaDoorW.PrintLast Go.Proofs.YtfnphepiopncbaaDoorW.PrintMore
attribute [local go_sem] max2_int min2_int max_two min_two max_three min_three max_four min_four
set_option linter.unusedVariables false
set_option linter.unusedSimpArgs false

/-- The call answers v and writes nothing. -/
abbrev Says (v : Value) (w : World) (e : Ending) (w' : World) : Prop := e = .returned v ∧ ∃ q, w' = w.drewN q
/-- v over 2 to the s, to the nearest. -/
def shf (v : Int) (s : Nat) : Int := if s = 0 then v else v / 2 ^ s + v / 2 ^ (s - 1) % 2
theorem i64_and1 (n : Int) : bits .and .i64 n 1 = n % 2 := by
  have h1 : (BitVec.ofInt 64 1).toNat = 2 ^ 1 - 1 := by decide
  have key : (BitVec.ofInt 64 n &&& BitVec.ofInt 64 1).toNat = (n % ((2 ^ 64 : Nat) : Int)).toNat % 2 ^ 1 := by
    rw [BitVec.toNat_and, BitVec.toNat_ofInt, h1, Nat.and_two_pow_sub_one_eq_mod]
  show IntKind.i64.wrap ((BitVec.ofInt 64 n &&& BitVec.ofInt 64 1).toNat : Nat) = n % 2
  rw [key, IntKind.wrap_i64]
  omega
theorem half_range (v : Int) (s : Nat) (hs : 1 ≤ s) (hv : -9223372036854775808 ≤ v ∧ v ≤ 9223372036854775807) : -4611686018427387904 ≤ v / 2 ^ s ∧ v / 2 ^ s ≤ 4611686018427387903 := by
  obtain ⟨t, rfl⟩ : ∃ t, s = t + 1 := ⟨s - 1, by omega⟩
  have hp : (0 : Int) < 2 ^ t := Int.pow_pos (by decide)
  rw [Int.pow_succ]
  generalize (2 : Int) ^ t = x at *
  constructor
  · rw [Int.le_ediv_iff_mul_le (by omega)]
    omega
  · refine Int.le_of_lt_add_one ?_
    rw [Int.ediv_lt_iff_lt_mul (by omega)]
    omega
theorem shf_wrap (v : Int) (s t : Nat) (hs : t + 1 = s) (hv : -9223372036854775808 ≤ v ∧ v ≤ 9223372036854775807) : wrap64 (v / 2 ^ s + bits .and .i64 (v / 2 ^ t) 1) = shf v s := by
  unfold shf
  rw [if_neg (by omega), i64_and1, show s - 1 = t by omega]
  have h1 := half_range v s (by omega) hv
  have h2 := Int.emod_two_eq (v / 2 ^ t)
  unfold wrap64
  omega
theorem shift_zero (v : Int) (w : World) : Calls Tryd.prog 56 #[.int .i64 v, .int .i64 0] w (Says (.int .i64 v) w) := by
  go_enter Tryd.func56, Tryd.ntmps56
  go_wp2
  go_ret
  exact ⟨rfl, 0, rfl⟩
theorem shift_some (v : Int) (s t : Nat) (hs : t + 1 = s) (hs2 : s ≤ 62) (hv : -9223372036854775808 ≤ v ∧ v ≤ 9223372036854775807) (w : World) : Calls Tryd.prog 56 #[.int .i64 v, .int .i64 s] w (Says (.int .i64 (shf v s)) w) := by
  have c3 : decide ((s : Int) ≤ 0) = false := by simp; omega
  have h4 : (if (62 : Int) < (s : Int) then (62 : Int) else (s : Int)) = (s : Int) := by rw [if_neg (by omega)]
  have e5 : (s : Int) - 1 = (t : Int) := by omega
  have HV := Aside0.mk hv
  have HS := Aside0.mk hs
  have hs62 : (s : Int) ≤ 62 := by omega
  have ht62 : (t : Int) ≤ 62 := by omega
  clear hs hv
  go_enter Tryd.func56, Tryd.ntmps56
  go_wp2
  go_quiet (fail)
  go_wp2
  go_ret
  rw [← shf_wrap v s t HS.out HV.out]
  exact ⟨rfl, _, rfl⟩
theorem shift_calls (v : Int) (s : Nat) (hs2 : s ≤ 62) (hv : -9223372036854775808 ≤ v ∧ v ≤ 9223372036854775807) (w : World) : Calls Tryd.prog 56 #[.int .i64 v, .int .i64 s] w (Says (.int .i64 (shf v s)) w) := by
  cases s with
  | zero => exact shift_zero v w
  | succ t => exact shift_some v (t + 1) t rfl hs2 hv w

/-! ### the tables -/
def terms : List Int := [1073741824, -1073764153, 536691957, -175978408, 35472643]
structure Laid (w : World) : Prop where
  t : ∀ i, i < 5 → w.cell? ⟨1, i, none⟩ = some (.int .i64 (terms.getD i 0))
  s0 : w.cell? ⟨0, 0, none⟩ = some (.int .u64 30)
  f0 : w.cell? ⟨0, 1, none⟩ = some (.int .u64 13787848793156543929)
  s1 : w.cell? ⟨0, 2, none⟩ = some (.int .u64 27)
  f1 : w.cell? ⟨0, 3, none⟩ = some (.int .u64 10723151780598845931)
  s2 : w.cell? ⟨0, 4, none⟩ = some (.int .u64 31)
  f2 : w.cell? ⟨0, 5, none⟩ = some (.int .u64 1)
theorem Laid.move {w w' : World} (h : Laid w) (hb : Below w.heap.size w w') : Laid w' :=
  ⟨fun i hi => pw_cell_below hb (h.t i hi), pw_cell_below hb h.s0, pw_cell_below hb h.f0, pw_cell_below hb h.s1, pw_cell_below hb h.f1, pw_cell_below hb h.s2, pw_cell_below hb h.f2⟩
theorem Laid.drew {w : World} (h : Laid w) (q : Nat) : Laid (w.drewN q) := h.move (pw_below_drewN (Below.refl _ _) q)

/-! ### Exp -/
def polyAt (r : Int) : Nat → Int
  | 0 => 0
  | i + 1 => terms.getD (4 - i) 0 + shf (polyAt r i * r) 16
/-- e to the z, 16 bits behind the point. -/
def expf (z : Int) : Int := if z < -1048576 then 0 else
  let y := -(if 0 < z then 0 else z)
  shf (shf (polyAt (y % 45426) 5) 14) (y / 45426).toNat
theorem shf16 (x : Int) : shf x 16 = x / 65536 + x / 32768 % 2 := rfl
theorem shf14 (x : Int) : shf x 14 = x / 16384 + x / 8192 % 2 := rfl
theorem up_mul {p r b : Int} (h0 : 0 ≤ p) (h1 : p ≤ b) (r0 : 0 ≤ r) (r1 : r ≤ 45425) : 0 ≤ p * r ∧ p * r ≤ b * 45425 :=
  ⟨Int.mul_nonneg h0 r0, Int.mul_le_mul h1 r1 r0 (by omega)⟩
theorem down_mul {p r b : Int} (h0 : p ≤ 0) (h1 : -b ≤ p) (r0 : 0 ≤ r) (r1 : r ≤ 45425) : p * r ≤ 0 ∧ -(b * 45425) ≤ p * r := by
  have h := up_mul (p := -p) (r := r) (b := b) (by omega) (by omega) r0 r1
  rw [Int.neg_mul] at h
  omega
/-- The terms stay small, one by one. -/
theorem poly_all (r : Int) (r0 : 0 ≤ r) (r1 : r ≤ 45425) : polyAt r 1 = 35472643 ∧ (-175978408 ≤ polyAt r 2 ∧ polyAt r 2 ≤ -151000000) ∧ (414000000 ≤ polyAt r 3 ∧ polyAt r 3 ≤ 536691957) ∧ (-1073764153 ≤ polyAt r 4 ∧ polyAt r 4 ≤ -701000000) ∧ (329000000 ≤ polyAt r 5 ∧ polyAt r 5 ≤ 1073741824) := by
  have e1 : polyAt r 1 = 35472643 := by
    show (35472643 : Int) + shf (0 * r) 16 = 35472643
    rw [shf16, Int.zero_mul]
    rfl
  have e2 : polyAt r 2 = -175978408 + shf (polyAt r 1 * r) 16 := rfl
  have e3 : polyAt r 3 = 536691957 + shf (polyAt r 2 * r) 16 := rfl
  have e4 : polyAt r 4 = -1073764153 + shf (polyAt r 3 * r) 16 := rfl
  have e5 : polyAt r 5 = 1073741824 + shf (polyAt r 4 * r) 16 := rfl
  rw [shf16] at e2 e3 e4 e5
  have b1 := up_mul (p := polyAt r 1) (r := r) (b := 35472643) (by omega) (by omega) r0 r1
  have h2 : -175978408 ≤ polyAt r 2 ∧ polyAt r 2 ≤ -151000000 := by omega
  have b2 := down_mul (p := polyAt r 2) (r := r) (b := 175978408) (by omega) (by omega) r0 r1
  have h3 : 414000000 ≤ polyAt r 3 ∧ polyAt r 3 ≤ 536691957 := by omega
  have b3 := up_mul (p := polyAt r 3) (r := r) (b := 536691957) (by omega) (by omega) r0 r1
  have h4 : -1073764153 ≤ polyAt r 4 ∧ polyAt r 4 ≤ -701000000 := by omega
  have b4 := down_mul (p := polyAt r 4) (r := r) (b := 1073764153) (by omega) (by omega) r0 r1
  have h5 : 329000000 ≤ polyAt r 5 ∧ polyAt r 5 ≤ 1073741824 := by omega
  exact ⟨e1, h2, h3, h4, h5⟩
theorem poly_small (r : Int) (r0 : 0 ≤ r) (r1 : r ≤ 45425) (i : Nat) (hi : i ≤ 5) : -1073764153 ≤ polyAt r i ∧ polyAt r i ≤ 1073741824 := by
  obtain ⟨h1, h2, h3, h4, h5⟩ := poly_all r r0 r1
  match i, hi with
  | 0, _ => exact ⟨by show (-1073764153 : Int) ≤ 0; decide, by show (0 : Int) ≤ 1073741824; decide⟩
  | 1, _ => omega
  | 2, _ => omega
  | 3, _ => omega
  | 4, _ => omega
  | 5, _ => omega
theorem poly_mul (r : Int) (r0 : 0 ≤ r) (r1 : r ≤ 45425) (i : Nat) (hi : i ≤ 5) : -48776234150025 - 1 ≤ polyAt r i * r ∧ polyAt r i * r ≤ 48775234150025 := by
  have h := poly_small r r0 r1 i hi
  rcases Int.le_total 0 (polyAt r i) with h0 | h0
  · have := up_mul h0 h.2 r0 r1
    omega
  · have := down_mul (b := 1073764153) h0 (by omega) r0 r1
    omega
set_option maxHeartbeats 1000000 in
set_option maxRecDepth 100000 in
theorem exp_calls (z : Int) (hz : -9223372036854775808 ≤ z ∧ z ≤ 9223372036854775807) (w : World) (hL : Laid w) : Calls Tryd.prog 60 #[.int .i64 z] w (Says (.int .i64 (expf z)) w) := by
  by_cases hlow : z < -1048576
  · have e : expf z = 0 := by unfold expf; rw [if_pos hlow]
    rw [e]
    clear e hL
    go_enter Tryd.func60, Tryd.ntmps60
    go_wp2
    go_ret
    exact ⟨rfl, 0, rfl⟩
  · obtain ⟨m, hm⟩ : ∃ m : Int, (if 0 < z then (0 : Int) else z) = m := ⟨_, rfl⟩
    have hm0 : -1048576 ≤ m ∧ m ≤ 0 := by rw [← hm]; split <;> omega
    obtain ⟨y, hy⟩ : ∃ y : Nat, (y : Int) = -m := ⟨(-m).toNat, by omega⟩
    have e : expf z = shf (shf (polyAt ((y : Int) % 45426) 5) 14) (y / 45426) := by
      unfold expf
      rw [if_neg hlow, hm, ← hy]
      show shf (shf (polyAt ((y : Int) % 45426) 5) 14) ((y : Int) / 45426).toNat = _
      congr 1
    rw [e]
    have hy2 : (y : Int) ≤ 1048576 := by omega
    have ez : -m = (y : Int) := by omega
    obtain ⟨r, hr⟩ : ∃ r : Int, (y : Int).tmod 45426 = r := ⟨_, rfl⟩
    have hr2 : (y : Int) % 45426 = r := by rw [← hr, Int.tmod_eq_emod_of_nonneg (by omega)]
    have hr0 : 0 ≤ r ∧ r ≤ 45425 := by omega
    obtain ⟨d, hd⟩ : ∃ d : Nat, y / 45426 = d := ⟨_, rfl⟩
    have hd2 : (y : Int).tdiv 45426 = (d : Int) := by rw [Int.tdiv_eq_ediv_of_nonneg (by omega)]; omega
    rw [hr2, hd]
    have hdd : d ≤ 62 := by omega
    have HL := Aside0.mk hL
    have HR := Aside0.mk hr0
    have HDD := Aside0.mk hdd
    clear hL hlow hy hm0 hr0 hr2 e
    have e0 : Aside0 (polyAt r 0 = 0) := ⟨rfl⟩
    obtain ⟨P, hP⟩ : ∃ P : Nat → Int, P = polyAt r := ⟨_, rfl⟩
    have HPM : Aside0 (∀ i, i ≤ 5 → -48776234150025 - 1 ≤ P i * r ∧ P i * r ≤ 48775234150025) := ⟨fun i hi => by rw [hP]; exact poly_mul r HR.out.1 HR.out.2 i hi⟩
    have HPS : Aside0 (∀ i, i ≤ 5 → -1073764153 ≤ P i ∧ P i ≤ 1073741824) := ⟨fun i hi => by rw [hP]; exact poly_small r HR.out.1 HR.out.2 i hi⟩
    have HPN : Aside0 (∀ i, P (i + 1) = terms.getD (4 - i) 0 + shf (P i * r) 16) := ⟨fun i => by rw [hP]; rfl⟩
    rw [← hP] at e0 ⊢
    clear hP
    go_enter Tryd.func60, Tryd.ntmps60
    go_wp2
    go_loopg [4, 13] 5 (fun gk v4 v13 wr => ∃ i : Nat, v13 = .int .i64 i ∧ v4 = .int .i64 (P i) ∧ i ≤ 5 ∧ 5 ≤ i + gk ∧ ∃ q, wr = w.drewN q)
    case atStart => exact ⟨0, rfl, by rw [e0.out], by omega, by omega, 0, rfl⟩
    case round =>
      obtain ⟨i, rfl, rfl, hi, hg, q, hq⟩ := hrel
      have HQ := Aside0.mk hq
      have HLr : Aside0 (Laid wr) := ⟨by rw [hq]; exact HL.out.drew q⟩
      clear hq
      by_cases hlt : i < 5
      · have hc := HLr.out.t (4 - i) (by omega)
        obtain ⟨j, hj⟩ : ∃ j, 4 - i = j := ⟨_, rfl⟩
        have e4 : (4 : Int) - (i : Int) = (j : Int) := by omega
        have hj5 : (j : Int) < 5 := by omega
        have hn := HPN.out i
        rw [hj] at hc hn
        obtain ⟨pr, hpr⟩ : ∃ pr, P i * r = pr := ⟨_, rfl⟩
        have hprb := HPM.out i (by omega)
        rw [hpr] at hprb hn
        obtain ⟨tj, htj⟩ : ∃ tj, terms.getD j 0 = tj := ⟨_, rfl⟩
        rw [htj] at hc hn
        obtain ⟨sv, hsv⟩ : ∃ sv, shf pr 16 = sv := ⟨_, rfl⟩
        have HW : Aside0 (∀ W, Calls Tryd.prog 56 #[.int .i64 pr, .int .i64 16] W (Says (.int .i64 sv) W)) := ⟨fun W => by rw [← hsv]; exact shift_calls pr 16 (by omega) (by omega) W⟩
        rw [hsv] at hn
        have w1 : wrap64 pr = pr := by unfold wrap64; omega
        have hnb := HPS.out (i + 1) (by omega)
        have w2 : wrap64 (tj + sv) = P (i + 1) := by rw [hn] at hnb; rw [hn]; unfold wrap64; omega
        have v0 : IntKind.i64.wrap (j : Int) = (j : Int) := by rw [IntWalk.i64_left]; unfold wrap64; omega
        have v1 : IntKind.i64.wrap pr = pr := by rw [IntWalk.i64_left]; exact w1
        have v2 : IntKind.i64.wrap (tj + sv) = P (i + 1) := by rw [IntWalk.i64_left]; exact w2
        have HHJ := Aside0.mk hj
        clear hprb hn htj hsv hnb hj
        go_wp2_with fail
        go_quiet ((go_at_call 56; refine Calls.quiet_of (HW.out _)))
        go_wp2_with fail
        go_roundg (5 - (i + 1))
        case measure => omega
        case rel => exact ⟨i + 1, by first | rfl | (simp; done), rfl, by omega, by omega, q + nq, by rw [HQ.out, World.drewN_drewN]⟩
      · obtain rfl : i = 5 := by omega
        have h5 := HPS.out 5 (by omega)
        have HW : Aside0 (∀ W, Calls Tryd.prog 56 #[.int .i64 (P 5), .int .i64 14] W (Says (.int .i64 (shf (P 5) 14)) W)) := ⟨fun W => shift_calls (P 5) 14 (by omega) (by omega) W⟩
        have h6 : -9223372036854775808 ≤ shf (P 5) 14 ∧ shf (P 5) 14 ≤ 9223372036854775807 := by rw [shf14]; omega
        have HW2 : Aside0 (∀ W, Calls Tryd.prog 56 #[.int .i64 (shf (P 5) 14), .int .i64 d] W (Says (.int .i64 (shf (shf (P 5) 14) d)) W)) := ⟨fun W => shift_calls _ d HDD.out h6 W⟩
        clear h5 h6
        go_wp2_with (first | (go_at_call 56; (first | (with_reducible refine Calls.mono (HW.out _) ?_) | (with_reducible refine Calls.mono (HW2.out _) ?_)); rintro e w7 ⟨rfl, q7, rfl⟩) | fail)
        go_ret
        rw [HQ.out]
        exact ⟨rfl, _, by rw [World.drewN_drewN]⟩
#print axioms exp_calls

/-! ### draw -/
def rounds : Value := .agg #[.int .u64 30, .int .u64 13787848793156543929, .int .u64 27, .int .u64 10723151780598845931, .int .u64 31, .int .u64 1]
theorem rounds_at0 (W : World) : Sem.run Tryd.prog (Instr.index 88 (.agg #[.int .u64 30, .int .u64 13787848793156543929, .int .u64 27, .int .u64 10723151780598845931, .int .u64 31, .int .u64 1]) (.int .i64 0)) W = .ok (.agg #[.int .u64 30, .int .u64 13787848793156543929]) W := by kernel_rfl
theorem rounds_at1 (W : World) : Sem.run Tryd.prog (Instr.index 88 (.agg #[.int .u64 30, .int .u64 13787848793156543929, .int .u64 27, .int .u64 10723151780598845931, .int .u64 31, .int .u64 1]) (.int .i64 1)) W = .ok (.agg #[.int .u64 27, .int .u64 10723151780598845931]) W := by kernel_rfl
theorem rounds_at2 (W : World) : Sem.run Tryd.prog (Instr.index 88 (.agg #[.int .u64 30, .int .u64 13787848793156543929, .int .u64 27, .int .u64 10723151780598845931, .int .u64 31, .int .u64 1]) (.int .i64 2)) W = .ok (.agg #[.int .u64 31, .int .u64 1]) W := by kernel_rfl
def mst (y d f : Int) : Int := IntKind.u64.wrap (bits BinOp.xor .u64 y (y / d) * f)
def mixf (x : Int) : Int := mst (mst (mst x 1073741824 13787848793156543929) 134217728 10723151780598845931) 2147483648 1
def mixAt (x : Int) : Nat → Int
  | 0 => x
  | 1 => mst x 1073741824 13787848793156543929
  | 2 => mst (mst x 1073741824 13787848793156543929) 134217728 10723151780598845931
  | _ => mixf x
set_option maxHeartbeats 1000000 in
set_option maxRecDepth 100000 in
theorem mix_calls (x : Int) (w : World) (hL : Laid w) : Calls Tryd.prog 47 #[.int .u64 x] w (fun e w' => e = .returned (.int .u64 (mixf x)) ∧ Below w.heap.size w w') := by
  have h0 := hL.s0
  have h1 := hL.f0
  have h2 := hL.s1
  have h3 := hL.f1
  have h4 := hL.s2
  have h5 := hL.f2
  have m1 : mixAt x 1 = IntKind.u64.wrap (bits BinOp.xor .u64 (mixAt x 0) (mixAt x 0 / 1073741824) * 13787848793156543929) := rfl
  have m2 : mixAt x 2 = IntKind.u64.wrap (bits BinOp.xor .u64 (mixAt x 1) (mixAt x 1 / 134217728) * 10723151780598845931) := rfl
  have m3 : mixAt x 3 = IntKind.u64.wrap (bits BinOp.xor .u64 (mixAt x 2) (mixAt x 2 / 2147483648)) := by
    show IntKind.u64.wrap (bits BinOp.xor .u64 _ (_ / 2147483648) * 1) = _
    rw [Int.mul_one]
    rfl
  have M0 : Aside0 (mixAt x 0 = x) := ⟨rfl⟩
  have M4 : Aside0 (mixf x = mixAt x 3) := ⟨rfl⟩
  rw [M4.out]
  obtain ⟨M, hM⟩ : ∃ M : Nat → Int, M = mixAt x := ⟨_, rfl⟩
  rw [← hM] at m1 m2 m3 M0 ⊢
  have N1 := Aside0.mk m1
  have N2 := Aside0.mk m2
  have N3 := Aside0.mk m3
  clear hM m1 m2 m3 M4 hL
  go_enter Tryd.func47, Tryd.ntmps47
  go_upto_region 2 with fail
  clear h0 h1 h2 h3 h4 h5
  go_loopg [0, 6] 3 (fun gk v0 v6 wr => ∃ (i : Nat), v6 = .int .i64 i ∧ v0 = .int .u64 (M i) ∧ i ≤ 3 ∧ 3 ≤ i + gk ∧ Aside0 (Below w.heap.size w wr))
  case atStart => exact ⟨0, rfl, by rw [M0.out], by omega, by omega, ⟨Below.refl _ _⟩⟩
  case round =>
    obtain ⟨i, rfl, rfl, hi, hg, HB⟩ := hrel
    rcases (show i = 0 ∨ i = 1 ∨ i = 2 ∨ i = 3 by omega) with rfl | rfl | rfl | rfl
    · have hx := rounds_at0
      go_wp2_with fail
      go_roundg 2
      case measure => omega
      case rel => exact ⟨1, rfl, by rw [N1.out], by omega, by omega, ⟨HB.out.alloc HB.out.size _⟩⟩
    · have hx := rounds_at1
      go_wp2_with fail
      go_roundg 1
      case measure => omega
      case rel => exact ⟨2, rfl, by rw [N2.out], by omega, by omega, ⟨HB.out.alloc HB.out.size _⟩⟩
    · have hx := rounds_at2
      go_wp2_with fail
      go_roundg 0
      case measure => omega
      case rel => exact ⟨3, rfl, by rw [N3.out], by omega, by omega, ⟨HB.out.alloc HB.out.size _⟩⟩
    · go_wp2_with fail
      go_ret
      exact ⟨rfl, HB.out⟩
#print axioms mix_calls
theorem u64_wrap (x : Int) : IntKind.u64.wrap x = x % 18446744073709551616 := by simp [IntKind.wrap, IntKind.bits, IntKind.signed]
theorem mixf_range (x : Int) : 0 ≤ mixf x ∧ mixf x < 18446744073709551616 := by
  unfold mixf
  generalize mst (mst x 1073741824 13787848793156543929) 134217728 10723151780598845931 = y
  unfold mst
  rw [u64_wrap]
  omega
/-- The number of a seed at a position, in a lane. -/
def atf (seed pos lane : Int) : Int :=
  mixf (IntKind.u64.wrap (mixf (IntKind.u64.wrap (mixf (IntKind.u64.wrap (seed + 11400714819323198485)) + IntKind.u64.wrap (11400714819323198485 * IntKind.u64.wrap pos))) + IntKind.u64.wrap (11400714819323198485 * IntKind.u64.wrap lane)))
theorem pair_at0 (a b : Int) (W : World) : Sem.run Tryd.prog (Instr.index 75 (.agg #[.int .i64 a, .int .i64 b]) (.int .i64 0)) W = .ok (.int .i64 a) W := by kernel_rfl
theorem pair_at1 (a b : Int) (W : World) : Sem.run Tryd.prog (Instr.index 75 (.agg #[.int .i64 a, .int .i64 b]) (.int .i64 1)) W = .ok (.int .i64 b) W := by kernel_rfl
def atAt (seed pos lane : Int) : Nat → Int
  | 0 => mixf (IntKind.u64.wrap (seed + 11400714819323198485))
  | 1 => mixf (IntKind.u64.wrap (mixf (IntKind.u64.wrap (seed + 11400714819323198485)) + IntKind.u64.wrap (11400714819323198485 * IntKind.u64.wrap pos)))
  | _ => atf seed pos lane
set_option maxHeartbeats 1000000 in
set_option maxRecDepth 100000 in
theorem at_calls (seed pos lane : Int) (w : World) (hL : Laid w) : Calls Tryd.prog 29 #[.int .u64 seed, .int .i64 pos, .int .i64 lane] w (fun e w' => e = .returned (.int .u64 (atf seed pos lane)) ∧ Below w.heap.size w w') := by
  have HM : Aside0 (∀ x W, Laid W → Calls Tryd.prog 47 #[.int .u64 x] W (fun e w' => e = .returned (.int .u64 (mixf x)) ∧ Below W.heap.size W w')) := ⟨fun x W h => mix_calls x W h⟩
  have M0 : Aside0 (atAt seed pos lane 0 = mixf (IntKind.u64.wrap (seed + 11400714819323198485))) := ⟨rfl⟩
  have M1 : Aside0 (atAt seed pos lane 1 = mixf (IntKind.u64.wrap (atAt seed pos lane 0 + IntKind.u64.wrap (11400714819323198485 * IntKind.u64.wrap pos)))) := ⟨rfl⟩
  have M2 : Aside0 (atAt seed pos lane 2 = mixf (IntKind.u64.wrap (atAt seed pos lane 1 + IntKind.u64.wrap (11400714819323198485 * IntKind.u64.wrap lane)))) := ⟨rfl⟩
  have M4 : Aside0 (atf seed pos lane = atAt seed pos lane 2) := ⟨rfl⟩
  rw [M4.out]
  obtain ⟨M, hM⟩ : ∃ M : Nat → Int, M = atAt seed pos lane := ⟨_, rfl⟩
  rw [← hM] at M0 M1 M2 ⊢
  have HL := Aside0.mk hL
  clear hM M4 hL
  go_enter Tryd.func29, Tryd.ntmps29
  go_upto_region 3 with (go_at_call 47; (with_reducible refine Calls.mono (HM.out _ _ HL.out) ?_); rintro e w1 ⟨rfl, hb⟩; have HB := Aside0.mk hb; clear hb)
  go_loopg [7, 16] 2 (fun gk v7 v16 wr => ∃ (i : Nat), v16 = .int .i64 i ∧ v7 = .int .u64 (M i) ∧ i ≤ 2 ∧ 2 ≤ i + gk ∧ Aside0 (Below w.heap.size w wr))
  case atStart => exact ⟨0, rfl, by rw [M0.out], by omega, by omega, HB⟩
  case round =>
    obtain ⟨i, rfl, rfl, hi, hg, HB2⟩ := hrel
    have HLr := Aside0.mk (HL.out.move HB2.out)
    rcases (show i = 0 ∨ i = 1 ∨ i = 2 by omega) with rfl | rfl | rfl
    · have hx := pair_at0 pos lane
      go_wp2_with (go_at_call 47; (with_reducible refine Calls.mono (HM.out _ _ HLr.out) ?_); rintro e w2 ⟨rfl, hb⟩; have HB3 := Aside0.mk (below_then HB2.out HB2.out.size hb); clear hb)
      go_roundg 1
      case measure => omega
      case rel => exact ⟨1, rfl, by rw [M1.out], by omega, by omega, HB3⟩
    · have hx := pair_at1 pos lane
      go_wp2_with (go_at_call 47; (with_reducible refine Calls.mono (HM.out _ _ HLr.out) ?_); rintro e w2 ⟨rfl, hb⟩; have HB3 := Aside0.mk (below_then HB2.out HB2.out.size hb); clear hb)
      go_roundg 0
      case measure => omega
      case rel => exact ⟨2, rfl, by rw [M2.out], by omega, by omega, HB3⟩
    · go_wp2_with fail
      go_ret
      exact ⟨rfl, HB2.out⟩
#print axioms at_calls
end Go.Proofs.YtfnphepiopncbaaDoor.Pick
