/- Sets compared; the walk of TreeAboves. Conditions: none. -/
import Derived.Test.YtmekcllgofeenaaRefAb
import Derived.Test.YtmekcllgofeenaaEqB
namespace Go.Proofs.Ytmekcllgofeenaa.WkAb
open Go.RowKit Go.Proofs.YtmekcllgofeenaaW.PrintWords Go.Proofs.YtmekcllgofeenaaW.PrintLast Go.Proofs.YtmekcllgofeenaaW.PrintMore
open Go.Proofs.Ytmekcllgofeenaa.N3 Go.Proofs.Ytmekcllgofeenaa.PTreeAboves Go.Proofs.Ytmekcllgofeenaa.RcTreeAboves Go.Proofs.Ytmekcllgofeenaa.SpTreeAboves Go.Proofs.Ytmekcllgofeenaa.Abv
set_option linter.unusedVariables false
set_option linter.unusedSimpArgs false

theorem at_u64 {w : World} {A : Option Addr} {n : Nat} {xs : List Int} (h : Kd.C (Kd.int .u64) w A n xs) (i : Nat) (hi : i < n) : ∃ ad : Addr, A = some ad ∧ w.cell? (ad.add i) = some (.int .u64 (rd xs i)) := by
  obtain ⟨ad, c, e, _, hK, hc0⟩ := Kd.C_get h 0 (i : Int) (by omega) (by omega)
  have hK' : c = [.int .u64 (rd xs i)] := hK
  subst hK'
  have h1 := hc0 0 _ rfl
  refine ⟨ad, e, ?_⟩
  have e1 : (i : Int).toNat * (Kd.int .u64).sz + 0 = i := by simp [Kd.int, Kd.scalar]
  rw [e1] at h1
  exact h1

set_option maxHeartbeats 4000000 in
set_option maxRecDepth 100000 in
theorem eqSelf (A : Option Addr) (c : Nat) (A' : Option Addr) (c' : Nat) (xs : List Int) (w : World) (hC : Kd.C (Kd.int .u64) w A xs.length xs) (hc : xs.length ≤ c) (hC' : Kd.C (Kd.int .u64) w A' xs.length xs) (hc' : xs.length ≤ c') (hl : xs.length ≤ 32) :
    Calls Try.prog 23 #[.slice A xs.length c, .slice A' xs.length c'] w (Yes w) := by
  have HC := Aside0.mk hC
  have HC' := Aside0.mk hC'
  have e0 : ((xs.length : Int) != (xs.length : Int)) = false := bne_self_eq_false _
  have e0n : (xs.length != xs.length) = false := bne_self_eq_false _
  clear hC hC'
  go_enter Try.func23, Try.ntmps23
  go_wp2
  go_loopg [5] xs.length (fun g v5 wr => ∃ i : Nat, v5 = .int .i64 i ∧ i ≤ xs.length ∧ xs.length ≤ i + g ∧ Drawn0 w wr)
  case atStart => exact ⟨0, rfl, by omega, by omega, Drawn0.refl _⟩
  case round =>
    obtain ⟨i, rfl, hi, hg, ⟨m, rfl⟩⟩ := hrel
    by_cases hlt : i < xs.length
    · obtain ⟨ad, rfl, a0⟩ := at_u64 HC.out i hlt
      obtain ⟨ad', rfl, a0'⟩ := at_u64 HC'.out i hlt
      have hne : ∀ wx, (binOp .neq 56 (.agg #[.int .u64 (rd xs i)]) (.agg #[.int .u64 (rd xs i)])).run Try.prog wx = .ok (.bool false) wx := fun wx => by rw [EqB.neq56, bne_self_eq_false]
      go_wp2_with fail
      go_quiet (fail)
      go_wp2_with fail
      go_roundg (xs.length - (i + 1))
      case measure => omega
      case rel => exact ⟨i + 1, by first | rfl | (simp; done), by omega, by omega, by repeat (first | exact Drawn0.refl _ | apply Drawn0.step)⟩
    · go_wp2
      go_ret
      exact ⟨rfl, pw_below_drewN (Below.refl _ _) _⟩

set_option maxHeartbeats 4000000 in
set_option maxRecDepth 100000 in
theorem walk (A0 : Option Addr) (c0 : Nat) (l0 : List S58) (w : World) (hr0 : Kd.C k58 w A0 l0.length l0) (hc0 : l0.length ≤ c0) (hl : l0.length * 24 ≤ 140737488351232) (hg : Chk.Good (l0.map tr)) :
    Calls Try.prog 6 #[.slice A0 l0.length c0] w (Yes w) := by
  have hlen : (abS (l0.map tr)).1.length ≤ 32 := by
    by_cases ht : isTree (l0.map tr)
    · rw [ab_ok ht, xsA_len]; exact ht.1.2.1
    · rw [ab_no ht]; simp
  have HR0 := Aside0.mk hr0
  have HC0 := Aside0.mk hc0
  have HL := Aside0.mk hl
  have HG := Aside0.mk hg
  generalize hcs : abS (l0.map tr) = cs at *
  obtain ⟨r, code⟩ := cs
  have HCS := Aside0.mk hcs
  have HLEN : Aside0 (r.length ≤ 32) := ⟨hlen⟩
  clear hr0 hc0 hl hg hlen hcs
  go_enter Try.func6, Try.ntmps6
  go_wp2_with fail
  refine (spare _ _ l0 _ HR0.out HC0.out HL.out).mono ?_
  rintro e w1 ⟨A, c, rfl, hcm, hm, hb⟩
  have HM := Aside0.mk hm
  have HB := Aside0.mk hb
  have HCM := Aside0.mk hcm
  clear hcm hm hb
  go_wp2_with fail
  have hfront : Kd.C kN w1 A (l0.map tr).length (l0.map tr) := by
    have := Kd.C_take (m := l0.length) (k := k58) (w := w1) (A := A) (xs := l0 ++ [SpTreeAboves.mark]) (by simpa using HM.out) (by simp)
    have h2 : Kd.C k58 w1 A l0.length l0 := by simpa using this
    simpa using kd_tr h2
  have hcall := above A c (l0.map tr) w1 hfront (by have := HCM.out; simp; omega) HG.out
  rw [HCS.out, List.length_map] at hcall
  refine hcall.mono ?_
  rintro e w2 ⟨v, rfl, hR, hb2⟩
  have HB2 := Aside0.mk hb2
  have HR := Aside0.mk hR
  clear hcall hb2 hfront hR
  go_wp2_with fail
  have hcall := RefAb.refAbove A0 c0 l0 w2 (Kd.C_below (Kd.C_below HR0.out HB.out) HB2.out) HC0.out
  rw [HCS.out] at hcall
  refine hcall.mono ?_
  rintro e w3 ⟨v3, rfl, hR3, hb3⟩
  have HB3 := Aside0.mk hb3
  have HRa := Aside0.mk (Kd.R_reads (Kd.R_below HR.out hb3))
  have HRb := Aside0.mk (Kd.R_reads hR3)
  clear hb3 hR3 hcall
  obtain ⟨Aa, ca, ea, hca, hCa⟩ := HRa.out
  obtain ⟨Ab, cb, eb, hcb, hCb⟩ := HRb.out
  subst ea eb
  have HCa := Aside0.mk hCa
  have HCb := Aside0.mk hCb
  have Hca := Aside0.mk hca
  have Hcb := Aside0.mk hcb
  clear hCa hCb hca hcb
  go_wp2_with fail
  refine (eqSelf _ _ _ _ r _ HCa.out Hca.out HCb.out Hcb.out HLEN.out).mono ?_
  rintro e w4 ⟨rfl, hb4⟩
  have HB4 := Aside0.mk hb4
  clear hb4
  go_wp2_with fail
  refine (stay A c _ _ l0 _ (Kd.C_below (Kd.C_below (Kd.C_below HM.out HB2.out) HB3.out) HB4.out) HCM.out (Kd.C_below (Kd.C_below (Kd.C_below (Kd.C_below HR0.out HB.out) HB2.out) HB3.out) HB4.out) HC0.out HL.out).mono ?_
  rintro e w5 ⟨rfl, hb5⟩
  go_wp2_with fail
  go_ret
  exact ⟨rfl, below_step (below_step (below_step (below_step HB.out HB2.out) HB3.out) HB4.out) hb5⟩
#print axioms walk
end Go.Proofs.Ytmekcllgofeenaa.WkAb
