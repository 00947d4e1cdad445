/- The walk of HeadsTops. Conditions: none. -/
import Derived.Test.YtfnphepiopncbaaHeadH
namespace Go.Proofs.Ytfnphepiopncbaa.Heads
open Go.RowKit Go.Shelf Go.Proofs.YtfnphepiopncbaaW.PrintWords Go.Proofs.Ytfnphepiopncbaa.Srt
set_option linter.unusedVariables false
set_option linter.unusedSimpArgs false

theorem ordl_late {K : Int → Int} {n q i : Nat} (hq : q < n) (hi : i < n) (h : (i : Int) ∉ (ordl K n).take (q + 1)) : Srt.ahead K ((ordl K n).getD q 0) (i : Int) := by
  have hm : (i : Int) ∈ ordl K n := ordl_mem.2 ⟨by omega, by omega⟩
  obtain ⟨p, hp, e⟩ := List.getElem_of_mem hm
  rw [ordl_len] at hp
  have hpq : q < p := by
    rcases Nat.lt_or_ge q p with h1 | h1
    · exact h1
    · refine absurd ?_ h
      rw [← e]
      exact List.mem_take_iff_getElem.2 ⟨p, by rw [ordl_len]; omega, rfl⟩
  have := ordl_pair (K := K) hpq hp
  rwa [show (ordl K n).getD p 0 = (i : Int) by rw [List.getD_eq_getElem?_getD, List.getElem?_eq_getElem (by rw [ordl_len]; exact hp)]; exact e] at this

theorem C_sub {w : World} {A : Option Addr} {O : List Int} {m q : Nat} (h : kI.C w A m (O.take m)) (hm : m ≤ O.length) (hq : q ≤ m) : kI.C w A q (O.take q) := by
  have hml : (O.take m).length = m := by rw [List.length_take]; omega
  have h := Kd.C_take (m := q) (xs := O.take m) (by rw [hml]; exact h) (by rw [hml]; omega)
  rw [List.take_take, show min q m = q by omega, List.length_take, show min q O.length = q by omega] at h
  exact h

set_option maxHeartbeats 1000000 in
set_option maxRecDepth 100000 in
theorem tops_walk (A : Option Addr) (c : Nat) (l : List Int) (w : World) (hA : kI.C w A l.length l) (hl : l.length * 8 ≤ 140737488355328) :
    Calls Try.prog 4 #[.slice A l.length c] w (Yes w) := by
  obtain ⟨n, hn⟩ : ∃ n, n = l.length := ⟨_, rfl⟩
  obtain ⟨O, hO⟩ : ∃ O, O = ordl (kv l) n := ⟨_, rfl⟩
  have hOL : O.length = n := by rw [hO, ordl_len]
  have hTop : ∀ k : Int, topOf l k = O.take k.toNat := fun k => by rw [hO, hn]; rfl
  have HF : Aside0 (∀ W, Calls Try.prog 6 #[] W (Yes W)) := ⟨fixed_calls⟩
  have HT : Aside0 (∀ W A c (k : Int) (q : Nat), (O.take k.toNat).length = q → kI.C W A n l → Calls Try.prog 8 #[.slice A n c, .int .i64 k] W (fun e w' => ∃ A c, e = .returned (.slice A q c) ∧ q ≤ c ∧ kI.C w' A q (O.take k.toNat) ∧ Below W.heap.size W w')) := ⟨fun W A c k q hq hC => by
    subst hn
    refine Calls.mono (top_calls A c l k W hC (by omega)) ?_
    rintro e w' ⟨v, rfl, hrow, hB⟩
    rw [hTop] at hrow
    obtain ⟨A1, c1, e1, h1, h2⟩ := row_Cn hrow hq
    subst e1
    exact ⟨A1, c1, rfl, h1, h2, hB⟩⟩
  have HE : Aside0 (∀ W A c B c2 m t, m.length = t → t ≤ n → kI.C W A t m → kI.C W B t m → Calls Try.prog 9 #[.slice A t c, .slice B t c2] W (Still true W)) := ⟨fun W A c B c2 m t h ht h1 h2 => by subst h; exact eqi_calls A c B c2 m W h1 h2 (by omega)⟩
  rw [← hn] at hA ⊢
  have hnb : n ≤ 17592186044416 := by omega
  have HL := Aside0.mk hA
  have HN := Aside0.mk hn
  have HO := Aside0.mk hO
  have HOL := Aside0.mk hOL
  clear hA hn hO hl hOL hTop
  go_enter Try.func4, Try.ntmps4
  go_upto_region 3 with (go_at_call 6; (with_reducible refine Calls.mono (HF.out _) ?_); rintro e w1 ⟨rfl, hb⟩; have HB1 := Aside0.mk hb; clear hb)
  go_upto_region 4 with (go_at_call 8; (with_reducible refine Calls.mono (HT.out _ _ _ 0 0 (by simp) (Kd.C_below HL.out HB1.out)) ?_); rintro e w2 ⟨A5, c5, rfl, _, hC, hB⟩; have HB2 := Aside0.mk (below_then HB1.out HB1.out.size hB); have HC5 := Aside0.mk hC; clear hC hB)
  go_upto_region 5 with (go_at_call 8; (with_reducible refine Calls.mono (HT.out _ _ _ (-1) 0 (by simp) (Kd.C_below HL.out HB2.out)) ?_); rintro e w3 ⟨A6, c6, rfl, _, hC, hB⟩; have HB3 := Aside0.mk (below_then HB2.out HB2.out.size hB); have HC5b := Aside0.mk (Kd.C_below HC5.out hB); clear hC hB)
  have hw1 : wrap64 ((n : Int) + 1) = (n : Int) + 1 := w64 (by omega) (by omega)
  go_upto_region 6 with (go_at_call 8; (with_reducible refine Calls.mono (HT.out _ _ _ ((n : Int) + 1) n (by rw [List.length_take, HOL.out]; omega) (Kd.C_below HL.out HB3.out)) ?_); rintro e w4 ⟨A7, c7, rfl, _, hC, hB⟩; have HB4 := Aside0.mk (below_then HB3.out HB3.out.size hB); have HC5c := Aside0.mk (Kd.C_below HC5b.out hB); have HC7 := Aside0.mk hC; clear hC hB)
  clear HF HB1 HB2 HB3 HC5 HC5b hw1
  have hC7 := HC7.out
  rw [List.take_of_length_le (by rw [HOL.out]; omega)] at hC7
  have HC7b := Aside0.mk hC7
  have HLb := Aside0.mk (Kd.C_below HL.out HB4.out)
  have HC5d : Aside0 (kI.C w4 A5 0 (O.take 0)) := ⟨by have h := HC5c.out; simpa using h⟩
  clear HC7 hC7 HL HC5c
  obtain ⟨i0, hi0, _, hsz0, _⟩ := info_parts infoInt
  have HCUT : Aside0 (∀ (A9 : Option Addr) (t c9 : Nat) (j : Int), 0 ≤ j → j ≤ c9 → ∀ W : World, (Instr.slice 24 (.slice A9 t c9) none (some (.int .i64 j)) none).run Try.prog W = .ok (.slice A9 j.toNat c9) W) := ⟨fun A9 t c9 j h0 hm => cut_hi (P := Try.prog) 24 3 .i64 Try.underlying24 hi0 A9 t c9 j h0 hm⟩
  clear hi0 hsz0
  go_wp2_with fail
  go_loopg [5, 8] n (fun gk v5 v8 wr => ∃ (m q : Nat) (A5 : Option Addr) (c5 : Nat), v8 = .int .i64 m ∧ v5 = .slice A5 q c5 ∧ q + 1 = m ∧ q ≤ n ∧ n ≤ q + gk ∧ Aside0 (kI.C wr A5 q (O.take q)) ∧ Aside0 (Below w4.heap.size w4 wr))
  case atStart => exact ⟨1, 0, A5, c5, rfl, rfl, by omega, by omega, by omega, HC5d, ⟨Below.refl _ _⟩⟩
  case round =>
    clear HC5d
    obtain ⟨m, q, A5, c5, rfl, rfl, hmq, hq, hg, HC5, HBr⟩ := hrel
    by_cases hlt : m ≤ n
    · have hqn : q < n := by omega
      have e5 : (m : Int) - 1 = (q : Int) := by omega
      have HMQ := Aside0.mk hmq
      go_upto_region 12 with (go_at_call 8; (with_reducible refine Calls.mono (HT.out _ _ _ (m : Int) m (by rw [List.length_take, HOL.out]; omega) (Kd.C_below HLb.out HBr.out)) ?_); rintro e w5 ⟨A9, c9, rfl, hc9, hC, hB⟩; have HB5 := Aside0.mk (below_then HBr.out HBr.out.size hB); have HC5b := Aside0.mk (Kd.C_below HC5.out hB); have HC9 := Aside0.mk hC; clear hC hB)
      have hcut0 : ∀ W : World, (Instr.slice 24 (.slice A9 m c9) none (some (.int .i64 q)) none).run Try.prog W = .ok (.slice A9 q c9) W := HCUT.out A9 m c9 q (by omega) (by omega)
      have hC9 := HC9.out
      rw [Int.toNat_natCast] at hC9
      have Q1 : Aside0 (∀ W, Below w5.heap.size w5 W → Calls Try.prog 9 #[.slice A9 q c9, .slice A5 q c5] W (Still true W)) := ⟨fun W hb => HE.out W A9 c9 A5 c5 (O.take q) q (by rw [List.length_take, HOL.out]; omega) (by omega) (C_sub (Kd.C_below hC9 hb) (by rw [HOL.out]; omega) (by omega)) (Kd.C_below HC5b.out hb)⟩
      obtain ⟨z, hz, hOz⟩ := ordl_getD (kv l) n q hqn
      rw [← HO.out] at hOz
      have hget : ∀ p, p < m → (O.take m).getD p 0 = O.getD p 0 := fun p hp => by rw [List.getD_eq_getElem?_getD, List.getD_eq_getElem?_getD, List.getElem?_take, if_pos hp]
      obtain ⟨ad9, rfl, h9⟩ := C_nat hC9 q (by omega)
      rw [hget q (by omega), hOz] at h9
      have HC9c := Aside0.mk hC9
      have HGET := Aside0.mk hget
      have HOZ := Aside0.mk hOz
      clear HC9 hC9 hget hOz
      go_upto_region 15 with (first | (go_at_call 9; (with_reducible refine Calls.mono (Q1.out _ (Below.refl _ _)) ?_); rintro e w7 ⟨rfl, q7, rfl⟩) | fail)
      refine name_world (X := fun w1 => Code.wp _ _ _ _ w1) fun wb hwb => ?_
      have h9b : wb.cell? (ad9.add q) = some (.int .i64 z) := by rw [hwb]; simpa using h9
      have hbb : Below w5.heap.size w5 wb := by rw [hwb]; exact pw_below_drewN (Below.refl _ _) _
      have HBB := Aside0.mk (below_then HB5.out HB5.out.size hbb)
      have HC9d := Aside0.mk (Kd.C_below HC9c.out hbb)
      have HLc := Aside0.mk (Kd.C_below HLb.out HBB.out)
      have t1 : decide (n ≤ z) = false := by simp; omega
      clear hwb h9 Q1 HC9c HC5b HC5 HB5 hbb hcut0
      go_wp2_with fail
      obtain ⟨gk0, rfl⟩ : ∃ gk0, gk0 = gk := ⟨gk, rfl⟩
      go_loopg [12] n (fun g2 v12 wq => ∃ i : Nat, v12 = .int .i64 i ∧ i ≤ n ∧ n ≤ i + g2 ∧ ∃ r, wq = wb.drewN r)
      case atStart => exact ⟨0, rfl, by omega, by omega, 0, rfl⟩
      case round =>
        clear h9b
        obtain ⟨i, rfl, hi, hg2, r, rfl⟩ := hrel
        by_cases hlt2 : i < n
        · go_wp2_with fail
          obtain ⟨gk1, rfl⟩ : ∃ gk1, gk1 = gk := ⟨gk, rfl⟩
          go_loopg [13, 14] m (fun g3 v13 v14 wq => ∃ j : Nat, v14 = .int .i64 j ∧ j ≤ m ∧ m ≤ j + g3 ∧ v13 = .bool (decide ((i : Int) ∈ O.take j)) ∧ wq = wb.drewN r)
          case atStart => exact ⟨0, rfl, by omega, by omega, by simp, rfl⟩
          case round =>
            obtain ⟨j, rfl, hj, hg3, rfl, rfl⟩ := hrel
            obtain ⟨th, hth⟩ : ∃ th, th = decide ((i : Int) ∈ O.take j) := ⟨_, rfl⟩
            rw [← hth]
            by_cases hlt3 : j < m
            · obtain ⟨y, hy, hOy⟩ := ordl_getD (kv l) n j (by omega)
              rw [← HO.out] at hOy
              obtain ⟨ad1, e1, h9⟩ := C_nat HC9d.out j hlt3
              cases e1
              rw [HGET.out j hlt3, hOy] at h9
              have hnx : decide ((i : Int) ∈ O.take (j + 1)) = (th || (y : Int) == (i : Int)) := by
                rw [take_next (by rw [HOL.out]; omega), hOy, hth, Bool.eq_iff_iff]
                simp
                constructor
                · rintro (h | h)
                  · exact .inl h
                  · exact .inr (by omega)
                · rintro (h | h)
                  · exact .inl h
                  · exact .inr (by omega)
              have HNX := Aside0.mk hnx
              clear hnx hth hOy
              cases th with
              | true =>
                go_wp2_with fail
                go_roundg (m - (j + 1))
                case measure => omega
                case rel => exact ⟨j + 1, by first | rfl | (simp; done), by omega, by omega, by rw [HNX.out]; rfl, rfl⟩
              | false =>
                obtain ⟨bq, hbq⟩ : ∃ bq, ((y : Int) == (i : Int)) = bq := ⟨_, rfl⟩
                have HBQ := Aside0.mk hbq
                have hbq2 : (y == i) = bq := by rw [← hbq, Bool.eq_iff_iff]; simp; omega
                go_wp2_with fail
                go_roundg (m - (j + 1))
                case measure => omega
                case rel => exact ⟨j + 1, by first | rfl | (simp; done), by omega, by omega, by rw [HNX.out, HBQ.out]; rfl, rfl⟩
            · obtain rfl : j = m := by omega
              obtain ⟨ad, rfl, h7⟩ := C_nat HLc.out i hlt2
              obtain ⟨ad1, e1, h8⟩ := C_nat HLc.out z hz
              cases e1
              obtain ⟨a, ha⟩ : ∃ a, l.getD i 0 = a := ⟨_, rfl⟩
              obtain ⟨b, hb⟩ : ∃ b, l.getD z 0 = b := ⟨_, rfl⟩
              have hlate : th = false → b < a → False := fun h1 h2 => by
                have h3 : (i : Int) ∉ (ordl (kv l) n).take (q + 1) := by
                  rw [HMQ.out, ← HO.out]
                  rw [h1] at hth
                  simpa using hth.symm
                have h4 := ordl_late (K := kv l) hqn hlt2 h3
                rw [← HO.out, HOZ.out] at h4
                unfold Srt.ahead kv at h4
                rw [Int.toNat_natCast, Int.toNat_natCast, ha, hb] at h4
                omega
              have hlate2 : th = false → a = b → i < z → False := fun h1 h2 h5 => by
                have h3 : (i : Int) ∉ (ordl (kv l) n).take (q + 1) := by
                  rw [HMQ.out, ← HO.out]
                  rw [h1] at hth
                  simpa using hth.symm
                have h4 := ordl_late (K := kv l) hqn hlt2 h3
                rw [← HO.out, HOZ.out] at h4
                unfold Srt.ahead kv at h4
                rw [Int.toNat_natCast, Int.toNat_natCast, ha, hb] at h4
                omega
              rw [ha] at h7
              rw [hb] at h8
              have hend : wb.drewN r = wb.drewN r := rfl
              clear ha hb hth
              cases th with
              | true =>
                clear hlate hlate2
                go_wp2_with fail
                go_region
                go_wp2_with fail
                go_roundg (n - (i + 1))
                case measure => omega
                case rel => exact ⟨i + 1, by first | rfl | (simp; done), by omega, by omega, _, rfl⟩
              | false =>
                have t4 : decide (b < a) = false := by simp; exact Int.not_lt.1 (hlate rfl)
                cases h2 : (a == b) with
                | false =>
                  clear hlate hlate2
                  go_wp2_with fail
                  go_region
                  go_wp2_with fail
                  go_roundg (n - (i + 1))
                  case measure => omega
                  case rel => exact ⟨i + 1, by first | rfl | (simp; done), by omega, by omega, _, rfl⟩
                | true =>
                  have t5 : decide (i < z) = false := by simp; exact Nat.not_lt.1 (hlate2 rfl (by simpa using h2))
                  clear hlate hlate2
                  go_wp2_with fail
                  go_region
                  go_wp2_with fail
                  go_roundg (n - (i + 1))
                  case measure => omega
                  case rel => exact ⟨i + 1, by first | rfl | (simp; done), by omega, by omega, _, rfl⟩
        · obtain rfl : i = n := by omega
          go_wp2_with fail
          go_roundg (i - (q + 1))
          case measure => omega
          case rel => exact ⟨m + 1, q + 1, _, _, by first | rfl | (simp; done), by rw [HMQ.out], by omega, by omega, by omega, ⟨by rw [HMQ.out]; exact Kd.C_below HC9d.out (pw_below_drewN (Below.refl _ _) _)⟩, ⟨pw_below_drewN HBB.out _⟩⟩
    · obtain rfl : q = n := by omega
      have hC7 := Kd.C_below HC7b.out HBr.out
      have hC5 := HC5.out
      rw [List.take_of_length_le (by rw [HOL.out]; omega)] at hC5
      have HQ := Aside0.mk (HE.out wr A7 c7 A5 c5 O q HOL.out (Nat.le_refl _) hC7 hC5)
      have HB9 := Aside0.mk (below_then HB4.out HB4.out.size HBr.out)
      clear hC7 hC5
      go_wp2_with (first | (go_at_call 9; (with_reducible refine Calls.mono HQ.out ?_); rintro e w7 ⟨rfl, q7, rfl⟩) | fail)
      go_ret
      exact ⟨rfl, pw_below_drewN HB9.out _⟩
#print axioms tops_walk
end Go.Proofs.Ytfnphepiopncbaa.Heads
