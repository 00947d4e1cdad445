/- The walk of PoolGrows. Conditions: none. -/
import Derived.Test.YtomjfhlcploblaaPoolGr
import Derived.Test.YtomjfhlcploblaaPoolL
import Derived.Deep.CutRange
namespace Go.Proofs.Ytomjfhlcploblaa.Pool
open Go.RowKit Go.Proofs.YtomjfhlcploblaaW.PrintWords Go.Proofs.YtomjfhlcploblaaW.PrintMore Go.Proofs.YtomjfhlcploblaaW.PrintLast
set_option linter.unusedVariables false
set_option linter.unusedSimpArgs false

def T0 (t : Nat) : Tb := ⟨t, .slice none 0 0, []⟩
theorem bl_zero {w w1 : World} {v : Value} (h : w1.ownsRow w.heap.size 3 1 v ([] : List Nat).length (ints [])) : ∃ A c, v = .slice A 0 c := by
  obtain ⟨A, c, e⟩ := own_slice h
  exact ⟨A, c, e⟩
theorem TAt.low {B base : Nat} {w w1 : World} {d : Ad} {T : Tb} (h : TAt w base d T) (hb : Below B w w1) (hl : ∀ k, T.own k → k < B) : TAt w1 base d T :=
  h.move (own := fun k => B ≤ k) ⟨hb.os, hb.tape, hb.output, hb.size, fun k _ hk => hb.block k (by omega)⟩ (fun k hk ho => by have := hl k hk; omega)
theorem needsN_ge (Z n : Nat) (hz : 1 ≤ Z) : n ≤ needsN Z n * Z := by
  unfold needsN
  have h1 := Nat.div_add_mod n Z
  have h2 := Nat.mod_lt n hz
  rw [Nat.add_mul, Nat.mul_comm (n / Z) Z]
  split <;> omega
theorem needsN_mono (Z a b : Nat) (hz : 1 ≤ Z) (h : a ≤ b) : needsN Z a ≤ needsN Z b := by
  unfold needsN
  have h1 := Nat.div_le_div_right (c := Z) h
  by_cases e : a / Z = b / Z
  · have h2 := Nat.div_add_mod a Z
    have h3 := Nat.div_add_mod b Z
    rw [e] at h2 ⊢
    split <;> split <;> omega
  · split <;> split <;> omega
theorem range_getD (i m x : Nat) (h : x < m) : (List.range' i m).getD x 0 = i + x := by
  rw [List.getD_eq_getElem?_getD, List.getElem?_range' h]
  simp
theorem range_take (i m r : Nat) (h : r ≤ m) : (List.range' i m).take r = List.range' i r := by
  apply List.ext_getElem?
  intro j
  rw [List.getElem?_take]
  by_cases hj : j < r
  · rw [if_pos hj, List.getElem?_range' (by omega), List.getElem?_range' hj]
  · rw [if_neg hj, List.getElem?_eq_none (by simp; omega)]
theorem slot_of_range (i m k x : Nat) (S : Pl) (t : Nat) (v : Value) (hZ : S.Z = k) (h : x / k < m) : slotOf S ⟨t, v, List.range' i m⟩ x = i * k + x := by
  unfold slotOf
  rw [hZ]
  show (List.range' i m).getD (x / k) 0 * k + x % k = _
  rw [range_getD _ _ _ h, Nat.add_mul, Nat.add_assoc, Nat.div_add_mod' x k]
theorem count_range (o x : Nat) : (toI (List.range' o x)).count ((o + x : Nat) : Int) = 0 := by
  rw [count_toI, List.count_eq_zero]
  intro h
  have := List.mem_range'_1.1 h
  omega
set_option maxHeartbeats 16000000 in
set_option maxRecDepth 100000 in
theorem grows_walk (b z tk n mm : Int) (w : World) (hn9 : n ≤ 9223372036854775807) : Calls Try.prog 5 #[.int .i64 b, .int .i64 z, .int .i64 tk, .int .i64 n, .int .i64 mm] w (fun e w' => e = .returned (.bool true) ∧ Below w.heap.size w w') := by
  have hmade := fun w1 => madeT_calls b z 1 (by omega) w1
  have hnb := nB_le b
  have hkz := nZ_le z
  have hfit := init23_fits b z
  generalize nB b = nb at *
  generalize nZ z = k at *
  have HMADE := Aside0.mk hmade
  clear hmade
  go_enter Try.func5, Try.ntmps5
  go_wp2_with fail
  refine (HMADE.out _).mono ?_
  rintro e w1 ⟨d, ts, v, base, rfl, hA, hown, hwb, hbw, htl, hrow, htb, hB⟩
  obtain ⟨t, rfl⟩ : ∃ t, ts = [t] := by
    match ts, htl with
    | [t], _ => exact ⟨t, rfl⟩
  obtain ⟨g, cap, rfl, hgb, hgl⟩ := hrow.form (by omega)
  have hc := hrow.cells (g := g) rfl 0 (.pointer (some ⟨t, 0, none⟩)) rfl
  have hc0 : w1.cell? ⟨g, 0, none⟩ = some (.pointer (some ⟨t, 0, none⟩)) := by
    rw [add_plain] at hc
    exact hc
  clear hc
  have hT := htb.at_ t (by simp)
  have HGT : Aside0 (g ≠ t) := ⟨fun e => own_ne hrow hT.t (by decide) (by rw [e]; rfl)⟩
  obtain ⟨gn, hgn⟩ := Int.eq_ofNat_of_zero_le (Int.emod_nonneg tk (show (nb : Int) ≠ 0 by omega))
  have hgl' : gn < nb := by have := Int.emod_lt_of_pos tk (show (0 : Int) < nb by omega); omega
  have hmod := fun w2 => mod_calls tk (nb : Int) w2 (by omega) (by omega)
  rw [hgn] at hmod
  have HMOD := Aside0.mk hmod
  clear hgn hmod
  have HA := Aside0.mk hA
  have HE := Aside0.mk (E23.start hfit)
  have HT := Aside0.mk hT
  have HOWN : Aside0 (∀ i, d.own i → w.heap.size ≤ i ∧ i < base) := ⟨hown⟩
  have HBB := Aside0.mk hB
  have HWB := Aside0.mk hwb
  have HBW := Aside0.mk hbw
  have HGB : Aside0 (base ≤ g) := ⟨hgb⟩
  have HC0 := Aside0.mk hc0
  clear hA hT hrow hown hB hwb hbw htl htb hgb hgl
  go_wp2_with fail
  refine (HMOD.out _).mono ?_
  rintro e w2 ⟨rfl, j1, rfl⟩
  go_wp2_with fail
  go_loopg [16] gn (fun gq v16 wr => ∃ (i : Nat) (S : Pl), v16 = .int .i64 i ∧ i ≤ gn ∧ gn ≤ i + gq ∧ Aside0 (At wr d S) ∧ Aside0 (E23 S nb k i) ∧ Aside0 (Ap d.own w1 wr))
  case atStart => exact ⟨0, _, rfl, by omega, by omega, ⟨HA.out.drewN _⟩, HE, ⟨(Ap.refl _ _).drewN _⟩⟩
  case round =>
    obtain ⟨i, S, rfl, hi, hg, HAi, HEi, HPi⟩ := hrel
    by_cases hlt : i < gn
    · go_wp2_with fail
      refine (take_calls d S wr HAi.out HEi.out.ok).mono ?_
      rintro e w3 (⟨b', h1, h2, h3, rfl, hA3, hP3⟩ | ⟨h1, _⟩)
      rotate_left
      · have hin := HEi.out
        exact absurd (by rw [hin.get, if_neg (by omega)]) (h1 i (by rw [hin.N]; omega))
      have hb' : b' = i := by
        have e1 := Pl.low_eq (by rw [HEi.out.ok.cl]; exact h1) h2 h3
        have e2 := HEi.out.low (by omega)
        omega
      subst hb'
      have HA3 := Aside0.mk hA3
      have HE3 := Aside0.mk (HEi.out.take (by omega))
      have HP3 := Aside0.mk (HPi.out.trans hP3)
      clear h1 h2 h3 hA3 hP3
      go_wp2_with fail
      go_roundg (gn - (b' + 1))
      case measure => omega
      case rel => exact ⟨b' + 1, _, by first | rfl | (simp; done), by omega, by omega, HA3, HE3, HP3⟩
    · obtain rfl : i = gn := by omega
      have hT2 : TAt wr base d (T0 t) := HT.out.move HPi.out (fun q hq ho => by have h1 := HT.out.base q hq; have h2 := (HOWN.out q ho).2; omega)
      have hc2 : wr.cell? ⟨g, 0, none⟩ = some (.pointer (some ⟨t, 0, none⟩)) := HPi.out.cell HC0.out (fun h => by have h2 := (HOWN.out _ h).2; have h3 := HGB.out; simp at h2; omega)
      have hB2 : Below w.heap.size w wr := Ap.below HBB.out HPi.out (fun q hq => (HOWN.out q hq).1) HBB.out.size
      have hdl : ∀ q, d.own q → q < base := fun q hq => (HOWN.out q hq).2
      have HT2 := Aside0.mk hT2
      have HB2 := Aside0.mk hB2
      have HDL := Aside0.mk hdl
      have hleft := HEi.out.left
      obtain ⟨lf, hlf⟩ : ∃ lf, lf = nb - i := ⟨_, rfl⟩
      rw [← hlf] at hleft
      have elf : (nb : Int) - (i : Int) = (lf : Int) := by omega
      have HL := Aside0.mk hleft
      have HLF := Aside0.mk hlf
      clear hT2 hB2 hdl hc0 hleft hlf
      by_cases hn : n < 0
      · clear elf
        go_wp2_with fail
        refine (grow_neg t n _ hn).mono ?_
        rintro e w3 ⟨rfl, j3, rfl⟩
        go_wp2_with fail
        refine (tblocks_calls base d (T0 t) (wr.drewN j3) (HT2.out.drewN j3) (by simp [T0])).mono ?_
        rintro e w4 ⟨v4, rfl, ho4, hb4⟩
        obtain ⟨A4, c4, e4⟩ := bl_zero ho4
        subst e4
        have HB4 := Aside0.mk (below_then (pw_below_drewN HB2.out j3) (Nat.le_trans HB2.out.size (Nat.le_refl _)) hb4)
        clear ho4 hb4
        go_wp2_with fail
        go_ret
        exact ⟨rfl, HB4.out⟩
      · obtain ⟨nn, rfl⟩ := Int.eq_ofNat_of_zero_le (show 0 ≤ n by omega)
        obtain ⟨m, hm⟩ : ∃ m, m = needsN k nn := ⟨_, rfl⟩
        obtain ⟨q, hq⟩ : ∃ q, q = nn / k := ⟨_, rfl⟩
        obtain ⟨r, hr⟩ : ∃ r, r = nn % k := ⟨_, rfl⟩
        have hmq : m = q + (if r = 0 then 0 else 1) := by rw [hm, hq, hr]; rfl
        have hqn : q ≤ nn := by rw [hq]; exact Nat.div_le_self _ _
        have hmn : m ≤ nn := by rw [hm]; exact needsN_le k nn hkz.1
        have e1' : (nn : Int) / (k : Int) = (q : Int) := by rw [hq]; simp
        have e1 : IntKind.i64.wrap (q : Int) = (q : Int) := IntWalk.i64_in _ (by omega)
        have e2 : (nn : Int) % (k : Int) = (r : Int) := by rw [hr]; simp
        have hz0 : ¬ (k : Int) = 0 := by omega
        have hz2 : ¬ k = 0 := by omega
        have hrk : r < k := by rw [hr]; exact Nat.mod_lt _ (by omega)
        have HM := Aside0.mk hm
        have HMQ := Aside0.mk hmq
        have hgrow := grow_calls base d S (T0 t) _ HT2.out HAi.out HEi.out.ok HDL.out nn (by omega) (by simp [T0])
        unfold GrowPost at hgrow
        rw [HL.out, HEi.out.Z, ← hm] at hgrow
        have HG := Aside0.mk hgrow
        clear hm hmq hgrow hq hr
        have b0 : decide ((nn : Int) < 0) = false := by simp
        go_wp2_with fail
        refine HG.out.mono ?_
        clear HG
        rintro e w3 (⟨hbig, rfl, j3, rfl⟩ | ⟨j, v, hle, hj, rfl, hA3, hT3, hv3, hP3⟩)
        · simp only [T0, List.length_nil] at hbig
          have hbig' : (lf : Int) < (m : Int) := by omega
          go_upto_if 78 with fail
          go_cut [18] from 79 to 80 (fun s18 wx => s18 = .int .i64 (m : Int) ∧ wx = wr.drewN j3)
          case first =>
            have hmq := HMQ.out
            by_cases hr : r = 0
            · rw [if_pos hr] at hmq
              rw [Nat.add_zero] at hmq
              subst hmq
              have hr0 : r ≤ 0 := by omega
              clear hr
              go_wp2_with fail
              go_meet
              exact ⟨rfl, rfl⟩
            · rw [if_neg hr] at hmq
              have hq1 : (q : Int) + 1 = (m : Int) := by omega
              clear hmq
              go_wp2_with fail
              go_meet
              exact ⟨by first | rfl | rw [hq1], rfl⟩
          case rest =>
            obtain ⟨rfl, rfl⟩ := hcut
            clear e1 e1' e2
            go_wp2_with fail
            refine (tblocks_calls base d (T0 t) (wr.drewN j3) (HT2.out.drewN j3) (by simp [T0])).mono ?_
            rintro e w4 ⟨v4, rfl, ho4, hb4⟩
            obtain ⟨A4, c4, e4⟩ := bl_zero ho4
            subst e4
            have HB4 := Aside0.mk (below_then (pw_below_drewN HB2.out j3) (Nat.le_trans HB2.out.size (Nat.le_refl _)) hb4)
            have HLC := Aside0.mk (left_calls d S w4 ((HAi.out.drewN j3).move (own := fun _ => False) (Ap.of_below hb4) (fun _ _ h => h)))
            rw [HL.out] at HLC
            clear ho4 hb4
            go_wp2_with fail
            refine HLC.out.mono ?_
            rintro e w5 ⟨rfl, j5, rfl⟩
            go_wp2_with fail
            go_ret
            exact ⟨by first | rfl | (simp; done), pw_below_drewN HB4.out _⟩
        · simp only [T0, List.length_nil] at hle hj
          obtain rfl : m = j := by omega
          clear hj
          have hml : m ≤ lf := by omega
          simp only [T0] at hA3 hT3 hv3
          obtain ⟨hE3, hbl3⟩ := HEi.out.grow [] m (by omega)
          rw [hbl3, List.nil_append] at hT3
          generalize (growN S [] m).1 = S3 at *
          have hc3 : w3.cell? ⟨g, 0, none⟩ = some (.pointer (some ⟨t, 0, none⟩)) := hP3.cell hc2 (fun h => by
            rcases h with h | h | h
            · have h2 := HDL.out _ h; have h3 := HGB.out; simp at h2; omega
            · exact HGT.out h
            · cases h)
          have hB3 : Below w.heap.size w w3 := Ap.below HB2.out hP3 (fun x h => by
            rcases h with h | h | h
            · exact (HOWN.out _ h).1
            · have h2 := HT2.out.le; have h3 := HWB.out; simp only [T0] at h2 h; omega
            · cases h) HB2.out.size
          have hk1 := needsN_ge k nn hkz.1
          rw [← HM.out] at hk1
          obtain ⟨mk, hmk⟩ : ∃ mk, mk = m * k := ⟨_, rfl⟩
          rw [← hmk] at hk1
          have hmk1 : mk ≤ 102 := by rw [hmk]; exact Nat.mul_le_mul (show m ≤ 17 by omega) hkz.2
          have hL3 : S3.left = lf - m := by rw [hE3.left]; have := HLF.out; omega
          obtain ⟨lf3, hlf3⟩ : ∃ x, x = lf - m := ⟨_, rfl⟩
          rw [← hlf3] at hL3
          have elf3 : (lf : Int) - (m : Int) = (lf3 : Int) := by omega
          have e3 : IntKind.i64.wrap ((m : Int) * (k : Int)) = (mk : Int) := by
            have : (m : Int) * (k : Int) = (mk : Int) := by rw [hmk]; simp
            rw [this]
            exact IntWalk.i64_in _ (by omega)
          have HA3 := Aside0.mk hA3
          have HE3 := Aside0.mk hE3
          have HT3 := Aside0.mk hT3
          have HB3 := Aside0.mk hB3
          have HL3 := Aside0.mk hL3
          have HMK := Aside0.mk hmk
          have HTL : Aside0 (t < w3.heap.size ∧ base ≤ w3.heap.size) := ⟨by
            have h1 := HT3.out.lt t (.inl rfl)
            have h2 := HT3.out.le
            simp only [] at h2
            omega⟩
          clear hA3 hE3 hT3 hB3 hL3 hmk hbl3 hP3 hv3 hle hc2 HT2 HB2 HAi HEi HA HE HT hlf3
          go_upto_if 78 with fail
          go_cut [18] from 79 to 80 (fun s18 wx => s18 = .int .i64 (m : Int) ∧ wx = w3)
          case first =>
            have hmq := HMQ.out
            by_cases hr : r = 0
            · rw [if_pos hr] at hmq
              rw [Nat.add_zero] at hmq
              subst hmq
              have hr0 : r ≤ 0 := by omega
              clear hr
              go_wp2_with fail
              go_meet
              exact ⟨rfl, rfl⟩
            · rw [if_neg hr] at hmq
              have hq1 : (q : Int) + 1 = (m : Int) := by omega
              clear hmq
              go_wp2_with fail
              go_meet
              exact ⟨by first | rfl | rw [hq1], rfl⟩
          case rest =>
            obtain ⟨rfl, rfl⟩ := hcut
            clear e1 e1' e2
            go_wp2_with fail
            refine (tblocks_calls base d _ _ HT3.out (by simp; omega)).mono ?_
            rintro e w4 ⟨v4, rfl, ho4, hb4⟩
            obtain ⟨A4, c4, e4, hc4, _, _⟩ := own_C ho4
            subst e4
            simp only [List.length_range'] at ho4 hc4 ⊢
            have hA4 : At w4 d S3 := HA3.out.move (own := fun _ => False) (Ap.of_below hb4) (fun _ _ h => h)
            have hT4 := HT3.out.move (own := fun _ => False) (Ap.of_below hb4) (fun _ _ h => h)
            have HLC := Aside0.mk (left_calls d S3 w4 hA4)
            rw [HL3.out] at HLC
            have HO4 := Aside0.mk ho4
            have HB4 := Aside0.mk (below_then HB3.out HB3.out.size hb4)
            have HW34 := Aside0.mk hb4
            have hc4' : w4.cell? ⟨g, 0, none⟩ = some (.pointer (some ⟨t, 0, none⟩)) := pw_cell_below hb4 hc3
            have HA4 := Aside0.mk hA4
            have HT4 := Aside0.mk hT4
            clear ho4 hb4 hA4 hT4 hc3 HA3 HT3 HB3
            go_wp2_with fail
            refine HLC.out.mono ?_
            rintro e w5 ⟨rfl, j5, hw5⟩
            have HA5 : Aside0 (At w5 d S3) := ⟨by rw [hw5]; exact HA4.out.drewN j5⟩
            have HT5 : Aside0 (TAt w5 base d ⟨t, v, List.range' i m⟩) := ⟨by rw [hw5]; exact HT4.out.drewN j5⟩
            have HO5 : Aside0 (w5.ownsRow wc.heap.size 3 1 (.slice A4 m c4) m (ints (List.range' i m))) := ⟨by rw [hw5]; exact HO4.out⟩
            have HB5 : Aside0 (Below w.heap.size w w5) := ⟨by rw [hw5]; exact pw_below_drewN HB4.out j5⟩
            have hc5 : w5.cell? ⟨g, 0, none⟩ = some (.pointer (some ⟨t, 0, none⟩)) := by rw [hw5]; exact hc4'
            have HS5 : Aside0 (wc.heap.size ≤ w5.heap.size) := ⟨by rw [hw5]; exact HW34.out.size⟩
            clear hw5 hc4' HA4 HT4 HO4 HB4 HLC HW34
            go_wp2_with fail
            obtain ⟨b0, hb0⟩ : ∃ b0, b0 = w5.heap.size := ⟨_, rfl⟩
            have HB0 := Aside0.mk hb0
            clear hb0
            go_loopg [20, 21] mk (fun gq v20 v21 wx => ∃ x : Nat, v21 = .int .i64 x ∧ x ≤ mk ∧ mk ≤ x + gq ∧ Aside0 (wx.ownsRow b0 3 1 v20 (List.range' (i * k) x).length (ints (List.range' (i * k) x))) ∧ Aside0 (Below b0 w5 wx))
            case atStart => exact ⟨0, rfl, by omega, by omega, ⟨own_nil _ _ _ _⟩, ⟨Below.refl _ _⟩⟩
            case round =>
              obtain ⟨x, rfl, hx, hgx, HOX, HBX⟩ := hrel
              have hAx : At wr d S3 := HA5.out.lowT HBX.out (fun a ha => by rw [HB0.out]; exact HA5.out.lt a ha)
              have hTx : TAt wr base d ⟨t, v, List.range' i m⟩ := HT5.out.low HBX.out (fun a ha => by rw [HB0.out]; exact HT5.out.lt a ha)
              have hcx : wr.cell? ⟨g, 0, none⟩ = some (.pointer (some ⟨t, 0, none⟩)) := pw_cell_below (by rw [← HB0.out]; exact HBX.out) hc5
              by_cases hlt : x < mk
              · have hxk : x / k < m := by
                  rw [HMK.out] at hlt
                  exact Nat.div_lt_of_lt_mul (by rw [Nat.mul_comm]; exact hlt)
                have hsl := tslot_ok base d S3 _ wr hTx hAx HE3.out.ok x (by omega) (by rw [HE3.out.Z]; simpa using hxk) (by rw [HE3.out.Z, HE3.out.N, range_getD _ _ _ hxk]; omega)
                rw [slot_of_range i m k x S3 t v HE3.out.Z hxk] at hsl
                have hik : i * k ≤ 102 := Nat.mul_le_mul (show i ≤ 17 by omega) hkz.2
                have hsq : (i * k + x) / k = i + x / k := by rw [Nat.add_comm, Nat.add_mul_div_right _ _ hkz.1, Nat.add_comm]
                have hsr : (i * k + x) % k = x % k := by rw [Nat.add_comm, Nat.add_mul_mod_self_right]
                have hrow5 := own_move HO5.out (w1 := wr) (fun a ha => HBX.out.block a (by rw [HB0.out]; exact own_lt HO5.out a ha))
                rw [ints_nums] at hrow5
                obtain ⟨ad, hA4e, hcell⟩ := (own_reads' hrow5).at_ ((x / k : Nat) : Int) (Int.natCast_nonneg _) (Int.ofNat_lt.2 hxk)
                have hrd : rd (List.map (fun (x : Nat) => (x : Int)) (List.range' i m)) ((x / k : Nat) : Int) = ((i + x / k : Nat) : Int) := by
                  have := rd_toI (List.range' i m) (x / k) (by simpa using hxk)
                  rw [range_getD _ _ _ hxk] at this
                  exact this
                rw [hrd, Int.toNat_natCast] at hcell
                subst hA4e
                obtain ⟨A6, c6, e6, hc6, _, hC6⟩ := own_C HOX.out
                simp only [List.length_range'] at hc6 hC6 e6
                have hl6 : (toI (List.range' (i * k) x)).length = x := by simp [toI]
                have htm : ∀ q, Calls Try.prog 27 #[.slice A6 x c6, .int .i64 ((i * k + x : Nat) : Int)] (wr.drewN q) (Quiet (wr.drewN q) (.int .i64 ((0 : Nat) : Int))) := fun q => by
                  have := times_calls (wr.drewN q) A6 c6 (toI (List.range' (i * k) x)) ((i * k + x : Nat) : Int) (Kd.C_below (by rw [hl6]; exact hC6) (pw_below_drewN (Below.refl _ _) q)) (by rw [hl6]; exact hc6) (by rw [hl6]; omega)
                  rw [count_range, hl6] at this
                  exact this
                obtain ⟨s, hs⟩ : ∃ s, s = i * k + x := ⟨_, rfl⟩
                obtain ⟨xq, hxq⟩ : ∃ a, a = x / k := ⟨_, rfl⟩
                obtain ⟨xr, hxr⟩ : ∃ a, a = x % k := ⟨_, rfl⟩
                obtain ⟨sb, hsb⟩ : ∃ a, a = i + xq := ⟨_, rfl⟩
                have hs2 : s ≤ 204 := by omega
                have q1 : IntKind.i64.wrap ((s : Int) / (k : Int)) = (sb : Int) := by
                  have : (s : Int) / (k : Int) = (sb : Int) := by rw [hsb, hxq, ← hsq, ← hs]; simp
                  rw [this]
                  exact IntWalk.i64_in _ (by omega)
                have q2 : IntKind.i64.wrap ((x : Int) / (k : Int)) = (xq : Int) := by
                  have : (x : Int) / (k : Int) = (xq : Int) := by rw [hxq]; simp
                  rw [this]
                  exact IntWalk.i64_in _ (by omega)
                have q3 : (s : Int) % (k : Int) = (xr : Int) := by
                  have : ((s % k : Nat) : Int) = (xr : Int) := by rw [hs, hsr, hxr]
                  rw [← this]; simp
                have q4 : (x : Int) % (k : Int) = (xr : Int) := by rw [hxr]; simp
                rw [← hxq, ← hsb] at hcell
                rw [← hs] at htm hsl
                have hqi : (xq : Int) < (m : Int) := by omega
                have HS := Aside0.mk hs
                have HTM := Aside0.mk htm
                have HSL := Aside0.mk hsl
                have HAX := Aside0.mk hAx
                have HTX := Aside0.mk hTx
                have HOX2 := Aside0.mk HOX.out
                rw [e6] at HOX2
                subst e6
                clear hs htm hsl hAx hTx hxq hxr hsb hsq hsr hrow5 hrd hC6 hl6 HOX hxk hik hc6
                go_wp2_with fail
                refine HSL.out.mono ?_
                rintro e w6 ⟨rfl, j6, hw6⟩
                have hcell6 : w6.cell? (ad.add xq) = some (.int .i64 (sb : Int)) := by rw [hw6]; exact hcell
                have HTM6 : Aside0 (∀ q, Calls Try.prog 27 #[.slice A6 x c6, .int .i64 (s : Int)] (w6.drewN q) (Quiet (w6.drewN q) (.int .i64 ((0 : Nat) : Int)))) := ⟨fun q => by rw [hw6, World.drewN_drewN]; exact HTM.out _⟩
                have HOX6 : Aside0 (w6.ownsRow b0 3 1 (.slice A6 x c6) (List.range' (i * k) x).length (ints (List.range' (i * k) x))) := ⟨by rw [hw6]; exact HOX2.out⟩
                have HBX6 : Aside0 (Below b0 w5 w6) := ⟨by rw [hw6]; exact pw_below_drewN HBX.out j6⟩
                clear hw6 hcell HTM HSL HOX2 HBX hcx
                go_wp2_with fail
                go_quiet ((go_at_call 27; refine Calls.quiet_of (HTM6.out _)))
                go_upto_region 27 with fail
                refine name_world (X := fun w1 => Code.wp _ _ _ _ w1) fun w8 hw8 => ?_
                have HOX8 : Aside0 (w8.ownsRow b0 3 1 (.slice A6 x c6) (List.range' (i * k) x).length (ints (List.range' (i * k) x))) := ⟨by rw [hw8]; exact HOX6.out⟩
                have HBX8 : Aside0 (Below b0 w5 w8) := ⟨by rw [hw8]; exact pw_below_drewN HBX6.out _⟩
                clear hw8
                go_wp2_with (first | (at_builtin; refine print_append_num (w0 := w8) b0 rfl (.tmp 170) (.tmp 172) 45 3 .i64 8 rfl Try.underlying45 infoInt (by omega) (.slice A6 x c6) (toI (List.range' (i * k) x)) (s : Int) ?aV ?aX ?aO ?aB ?aS ?aL ?_; (case aV => rfl); (case aX => first | (go_simp; done) | (go_simp; rfl)); (case aO => have := HOX8.out; rw [ints_nums] at this; simpa [toI] using this); (case aB => exact Below.refl _ _); (case aS => have := HBX8.out.size; have := HB0.out; omega); (case aL => simp [toI]; omega); intro v1 w7 ho7 hb7 hg7 hat7; have HO7 := Aside0.mk ho7; have HB7 := Aside0.mk hb7; clear ho7 hb7 hg7 hat7) | fail)
                go_roundg (mk - (x + 1))
                case measure => omega
                case rel =>
                  refine ⟨x + 1, by first | rfl | (simp; done), by omega, by omega, ⟨?_⟩, ⟨HBX8.out.trans HB7.out⟩⟩
                  have h7 := HO7.out
                  have e7 : toI (List.range' (i * k) x) ++ [(s : Int)] = toI (List.range' (i * k) (x + 1)) := by
                    rw [List.range'_concat, HS.out]
                    simp [toI]
                  rw [e7] at h7
                  rw [ints_nums]
                  simpa [toI] using h7
              · obtain rfl : mk = x := by omega
                have hHM := HMK.out
                have hno := tslot_no base d S3 _ wr hTx hAx HE3.out.ok mk (by omega) (by rw [HE3.out.Z, hHM, Nat.mul_div_cancel _ hkz.1]; simp)
                obtain ⟨kp, hkp⟩ := Int.eq_ofNat_of_zero_le (Int.emod_nonneg mm (show ((nn : Int) + 1) ≠ 0 by omega))
                have hkp1 : kp ≤ nn := by have := Int.emod_lt_of_pos mm (show (0 : Int) < (nn : Int) + 1 by omega); omega
                have hmod := fun w2 => mod_calls mm ((nn : Int) + 1) w2 (by omega) (by omega)
                rw [hkp] at hmod
                obtain ⟨rs, hrs⟩ : ∃ rs, rs = needsN k kp := ⟨_, rfl⟩
                obtain ⟨q6, hq6⟩ : ∃ q, q = kp / k := ⟨_, rfl⟩
                obtain ⟨r6, hr6⟩ : ∃ q, q = kp % k := ⟨_, rfl⟩
                have hrsq : rs = q6 + (if r6 = 0 then 0 else 1) := by rw [hrs, hq6, hr6]; rfl
                have hq6k : q6 ≤ kp := by rw [hq6]; exact Nat.div_le_self _ _
                have hrsm : rs ≤ m := by rw [hrs, HM.out]; exact needsN_mono k kp nn hkz.1 hkp1
                have f1 : (kp : Int) / (k : Int) = (q6 : Int) := by rw [hq6]; simp
                have f2 : IntKind.i64.wrap (q6 : Int) = (q6 : Int) := IntWalk.i64_in _ (by omega)
                have f3 : (kp : Int) % (k : Int) = (r6 : Int) := by rw [hr6]; simp
                have HNO := Aside0.mk hno
                have HMOD2 := Aside0.mk hmod
                have HRS := Aside0.mk hrs
                have HRQ := Aside0.mk hrsq
                have HAX := Aside0.mk hAx
                have HTX := Aside0.mk hTx
                clear hno hmod hrs hrsq hAx hTx hHM hq6 hr6 HOX hkp
                go_wp2_with fail
                refine HNO.out.mono ?_
                rintro e w6 ⟨rfl, j6, rfl⟩
                go_wp2_with fail
                refine (HMOD2.out _).mono ?_
                rintro e w6 ⟨rfl, j7, rfl⟩
                go_wp2_with fail
                refine (trim_calls base d S3 _ _ (HTX.out.drewN _) (HAX.out.drewN _) HE3.out.ok HDL.out kp (by omega) (by simp; omega)).mono ?_
                rintro e w8 ⟨v8, rfl, hA8, hT8, hv8, hP8⟩
                simp only [HE3.out.Z, List.length_range', ← HRS.out] at hA8 hT8
                rw [range_take _ _ _ hrsm] at hT8
                have hE8 := HE3.out.trim (m - rs) (by omega)
                generalize trimN S3 (List.range' i m) (m - rs) = S8 at *
                obtain ⟨lf4, hlf4⟩ : ∃ x, x = lf - rs := ⟨_, rfl⟩
                have hL8 : S8.left = lf4 := by rw [hE8.left]; have := HLF.out; omega
                have elf4 : (lf : Int) - (rs : Int) = (lf4 : Int) := by omega
                have hc8 : w8.cell? ⟨g, 0, none⟩ = some (.pointer (some ⟨t, 0, none⟩)) := hP8.cell (by exact hcx) (fun h => by
                  rcases h with h | h
                  · have h2 := HDL.out _ h; have h3 := HGB.out; simp at h2; omega
                  · exact HGT.out h)
                have hO8 : w8.ownsRow wc.heap.size 3 1 (.slice A4 m c4) m (ints (List.range' i m)) := own_move (own_move HO5.out (w1 := wr) (fun a ha => HBX.out.block a (by rw [HB0.out]; exact own_lt HO5.out a ha))) (fun a ha => by
                  have h1 := own_base HO5.out a ha
                  have h2 := own_lt HO5.out a ha
                  have h3 := HBX.out.size
                  have h4 := HB0.out
                  refine hP8.block a (Nat.lt_of_lt_of_le (Nat.lt_of_lt_of_le h2 (by omega)) h3) (fun h => ?_)
                  have h5 := HTL.out
                  rcases h with h | h
                  · have h2 := HDL.out _ h; omega
                  · have h6 : a = t := h
                    omega)
                have hB8 : Below w.heap.size w w8 := Ap.below (pw_below_drewN (below_then HB5.out HB5.out.size (by rw [← HB0.out]; exact HBX.out)) _) hP8 (fun a h => by
                  rcases h with h | h
                  · exact (HOWN.out _ h).1
                  · have h2 := HTX.out.le; have h3 := HWB.out; have h4 : a = t := h; simp only [] at h2; omega) (Nat.le_trans HB5.out.size (by have := HBX.out.size; have := HB0.out; simp; omega))
                have HA8 := Aside0.mk hA8
                have HT8 := Aside0.mk hT8
                have HO8 := Aside0.mk hO8
                have HB8 := Aside0.mk hB8
                have HL8 := Aside0.mk hL8
                clear hA8 hT8 hO8 hB8 hL8 hE8 hP8 hv8 hlf4 hcx hc5
                go_upto_if 199 with fail
                go_cut [26] from 200 to 201 (fun s26 wx => s26 = .int .i64 (rs : Int) ∧ wx = w8)
                case first =>
                  have hmq := HRQ.out
                  by_cases hr : r6 = 0
                  · rw [if_pos hr, Nat.add_zero] at hmq
                    have hq1 : (q6 : Int) = (rs : Int) := by omega
                    have hr0 : r6 ≤ 0 := by omega
                    clear hr hmq
                    have HQ1 := Aside0.mk hq1
                    clear hq1
                    go_wp2_with fail
                    go_meet
                    exact ⟨by rw [HQ1.out], rfl⟩
                  · rw [if_neg hr] at hmq
                    have hq1 : (q6 : Int) + 1 = (rs : Int) := by omega
                    clear hmq
                    go_wp2_with fail
                    go_meet
                    exact ⟨by first | rfl | rw [hq1], rfl⟩
                case rest =>
                  obtain ⟨rfl, hw8c⟩ := hcut
                  have hw8c' := hw8c.symm
                  clear hw8c
                  subst hw8c'
                  clear f1 f2 f3
                  go_wp2_with fail
                  refine (tblocks_calls base d _ _ HT8.out (by simp; omega)).mono ?_
                  rintro e w9 ⟨v9, rfl, ho9, hb9⟩
                  obtain ⟨A9, c9, e9, hc9, _, hC9⟩ := own_C ho9
                  subst e9
                  simp only [List.length_range'] at hc9 hC9 ⊢
                  have HL9 : Aside0 (∀ q, Calls Try.prog 25 #[.pointer (some ⟨d.p, 0, none⟩)] (w9.drewN q) (Quiet (w9.drewN q) (.int .i64 (lf4 : Int)))) := ⟨fun q => by have h := left_calls d S8 (w9.drewN q) ((HA8.out.move (own := fun _ => False) (Ap.of_below hb9) (fun _ _ h => h)).drewN q); rw [HL8.out] at h; exact h⟩
                  have HB9 := Aside0.mk (below_then HB8.out HB8.out.size hb9)
                  have hrow := own_move HO8.out (w1 := w9) (fun a ha => hb9.block a (own_lt HO8.out a ha))
                  rw [ints_nums] at hrow
                  have hmc4 := own_cap hrow
                  have hl9 : (toI (List.range' i rs)).length = rs := by simp [toI]
                  have htk : (List.map (fun (x : Nat) => (x : Int)) (List.range' i m)).take rs = toI (List.range' i rs) := by rw [← List.map_take, range_take _ _ _ hrsm]; rfl
                  have hR4 := (own_reads' hrow).take_ rs hrsm
                  rw [htk] at hR4
                  have heq := eqi_calls w9 A9 A4 c9 c4 (toI (List.range' i rs)) (by rw [hl9]; omega) (by rw [hl9]; exact hC9) (by rw [hl9]; exact hc9) (by rw [hl9]; exact Kd.C_of_reads hR4) (by rw [hl9]; omega)
                  rw [hl9] at heq
                  obtain ⟨ii, hii, _, _, _⟩ := info_parts infoInt
                  have hcutt := cut_to (P := Try.prog) 45 3 .i64 Try.underlying45 hii A4 m c4 (rs : Int) (by omega) (by omega) hmc4
                  rw [Int.toNat_natCast] at hcutt
                  have HEQ := Aside0.mk heq
                  clear heq hii hR4 htk hl9 hrow ho9 hb9 hc9 hC9
                  go_wp2_with (first | (go_at_call 29; refine HEQ.out.mono ?_; rintro e w10 ⟨rfl, j10, rfl⟩) | fail)
                  refine (HL9.out _).mono ?_
                  rintro e w11 ⟨rfl, j11, rfl⟩
                  go_wp2_with fail
                  go_ret
                  exact ⟨by first | rfl | (simp; done), pw_below_drewN HB9.out _⟩
#print axioms grows_walk
end Go.Proofs.Ytomjfhlcploblaa.Pool
