/- The walk of TreeChecks. Conditions: none. -/
import Derived.Test.YtmekcllgofeenaaSpTreeChecks
namespace Go.Proofs.Ytmekcllgofeenaa.WkTreeChecks
open Go.RowKit Go.Proofs.YtmekcllgofeenaaW.PrintWords Go.Proofs.YtmekcllgofeenaaW.PrintLast Go.Proofs.YtmekcllgofeenaaW.PrintMore
open Go.Proofs.Ytmekcllgofeenaa.N3 Go.Proofs.Ytmekcllgofeenaa.PTreeChecks Go.Proofs.Ytmekcllgofeenaa.RcTreeChecks Go.Proofs.Ytmekcllgofeenaa.SpTreeChecks
set_option linter.unusedVariables false
set_option linter.unusedSimpArgs false

theorem C_front {w : World} {A : Option Addr} {l0 : List S58} (hm : Kd.C k58 w A (l0.length + 1) (l0 ++ [SpTreeChecks.mark])) : Kd.C kN w A (l0.map tr).length (l0.map tr) := by
  have := Kd.C_take (m := l0.length) (k := k58) (w := w) (A := A) (xs := l0 ++ [SpTreeChecks.mark]) (by simpa using hm) (by simp)
  have h2 : Kd.C k58 w A l0.length l0 := by simpa using this
  simpa using kd_tr h2

set_option maxHeartbeats 4000000 in
set_option maxRecDepth 100000 in
theorem walk (A0 : Option Addr) (c0 : Nat) (l0 : List S58) (w : World) (hr0 : Kd.C k58 w A0 l0.length l0) (hc0 : l0.length ≤ c0) (hl : l0.length * 24 ≤ 140737488351232) (hg : Chk.Good (l0.map tr)) :
    Calls Try.prog 5 #[.slice A0 l0.length c0] w (Yes w) := by
  obtain ⟨k, hk⟩ := ref_check l0
  have HR0 := Aside0.mk hr0
  have HC0 := Aside0.mk hc0
  have HK := Aside0.mk hk
  have HL := Aside0.mk hl
  have HG := Aside0.mk hg
  clear hr0 hc0 hk hl hg
  go_enter Try.func5, Try.ntmps5
  go_wp2_with fail
  refine (spare _ _ l0 _ HR0.out HC0.out HL.out).mono ?_
  rintro e w1 ⟨A, c, rfl, hcm, hm, hb⟩
  have HM := Aside0.mk hm
  have HB := Aside0.mk hb
  have HCM := Aside0.mk hcm
  clear hcm hm hb
  go_wp2_with fail
  have hcall := Chk.calls A c (l0.map tr) w1 (C_front HM.out) (by have := HCM.out; simp; omega) HG.out
  rw [List.length_map] at hcall
  refine hcall.mono ?_
  rintro e w2 ⟨rfl, hb2⟩
  have HB2 := Aside0.mk hb2
  clear hcall hb2
  go_wp2_with fail
  refine (augurref14_Check.calls k _ _ l0 _ _ (Kd.C_below (Kd.C_below HR0.out HB.out) HB2.out) HC0.out HK.out).mono ?_
  rintro e w3 ⟨rfl, hb3⟩
  have HB3 := Aside0.mk hb3
  clear hb3
  go_wp2_with fail
  refine (stay A c _ _ l0 _ (Kd.C_below (Kd.C_below HM.out HB2.out) HB3.out) HCM.out (Kd.C_below (Kd.C_below (Kd.C_below HR0.out HB.out) HB2.out) HB3.out) HC0.out HL.out).mono ?_
  rintro e w4 ⟨rfl, hb4⟩
  go_wp2_with fail
  go_ret
  exact ⟨rfl, below_step (below_step (below_step HB.out HB2.out) HB3.out) hb4⟩
#print axioms walk
end Go.Proofs.Ytmekcllgofeenaa.WkTreeChecks
