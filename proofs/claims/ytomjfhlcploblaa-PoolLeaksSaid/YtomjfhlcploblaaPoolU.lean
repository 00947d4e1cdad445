/- A position's place in a table, and its slot. Conditions: a table and its pool in memory. -/
import Derived.Test.YtomjfhlcploblaaPoolT
namespace Go.Proofs.Ytomjfhlcploblaa.Pool
open Go.RowKit Go.Proofs.YtomjfhlcploblaaW.PrintWords Go.Proofs.YtomjfhlcploblaaW.PrintMore
set_option linter.unusedVariables false
set_option linter.unusedSimpArgs false
attribute [local go_sem ↓] Go.wp_at_zero Go.wp_at_succ

theorem TAt.cells {w : World} {base : Nat} {d : Ad} {T : Tb} (h : TAt w base d T) : ∃ A c, T.v = .slice A T.bl.length c ∧ w.cell? ⟨T.t, 0, none⟩ = some (.slice A T.bl.length c) ∧ w.cell? ⟨T.t, 1, none⟩ = some (.pointer (some ⟨d.p, 0, none⟩)) ∧ T.bl.length ≤ 9223372036854775807 ∧ ∀ i, i < T.bl.length → ∃ ad, A = some ad ∧ w.cell? (ad.add i) = some (.int .i64 ((T.bl.getD i 0 : Nat) : Int)) := by
  obtain ⟨A, c, hv, hc, hR⟩ := h.reads
  refine ⟨A, c, hv, (blk_cell h.t 0).trans (by rw [hv]; rfl), (blk_cell h.t 1).trans rfl, hR.2.1, fun i hi => ?_⟩
  obtain ⟨ad, e, hcell⟩ := hR.2.2 (by omega)
  refine ⟨ad, e, ?_⟩
  rw [hcell i hi]
  simp [List.getD_eq_getElem?_getD, hi]
def Pair (w : World) (a b : Int) (e : Ending) (w' : World) : Prop := e = .returned (.tuple #[.int .i64 a, .int .i64 b]) ∧ ∃ j, w' = w.drewN j
set_option maxHeartbeats 4000000 in
theorem place_ok (base : Nat) (d : Ad) (S : Pl) (T : Tb) (w : World) (hT : TAt w base d T) (hA : At w d S) (hok : S.Ok) (n : Nat) (hn : n ≤ 9223372036854775807) (hx : n / S.Z < T.bl.length) :
    Calls Try.prog 68 #[.pointer (some ⟨T.t, 0, none⟩), .int .i64 n] w (Pair w ((n / S.Z : Nat) : Int) 0) := by
  have q3 := hA.fields.2.2.2.1
  obtain ⟨A, c, hv, r0, r1, hlm, _⟩ := hT.cells
  obtain ⟨x, hxx⟩ : ∃ x, x = n / S.Z := ⟨_, rfl⟩
  have hz := hok.Z1
  have hxn : x ≤ n := by rw [hxx]; exact Nat.div_le_self _ _
  have e1 : IntKind.i64.wrap ((n : Int) / (S.Z : Int)) = (x : Int) := by
    have : (n : Int) / (S.Z : Int) = (x : Int) := by rw [hxx]; simp
    rw [this]
    exact IntWalk.i64_in _ (by omega)
  have hz0 : ¬ (S.Z : Int) = 0 := by omega
  have hz2 : ¬ S.Z = 0 := by omega
  rw [← hxx] at hx ⊢
  have b1 : decide ((n : Int) < 0) = false := by simp
  have b2 : decide (T.bl.length ≤ x) = false := by simpa using hx
  have b3 : ¬ T.bl.length ≤ x := by omega
  clear hxx hT hA hok hx hxn hlm
  go_enter Try.func68, Try.ntmps68
  go_wp2_with fail
  go_quiet (fail)
  go_wp2_with fail
  go_ret2
  exact ⟨rfl, _, rfl⟩
#print axioms place_ok
set_option maxHeartbeats 4000000 in
theorem place_no (base : Nat) (d : Ad) (S : Pl) (T : Tb) (w : World) (hT : TAt w base d T) (hA : At w d S) (hok : S.Ok) (n : Nat) (hn : n ≤ 9223372036854775807) (hx : T.bl.length ≤ n / S.Z) :
    Calls Try.prog 68 #[.pointer (some ⟨T.t, 0, none⟩), .int .i64 n] w (Pair w 0 62) := by
  have q3 := hA.fields.2.2.2.1
  obtain ⟨A, c, hv, r0, r1, hlm, _⟩ := hT.cells
  obtain ⟨x, hxx⟩ : ∃ x, x = n / S.Z := ⟨_, rfl⟩
  have hz := hok.Z1
  have hxn : x ≤ n := by rw [hxx]; exact Nat.div_le_self _ _
  have e1 : IntKind.i64.wrap ((n : Int) / (S.Z : Int)) = (x : Int) := by
    have : (n : Int) / (S.Z : Int) = (x : Int) := by rw [hxx]; simp
    rw [this]
    exact IntWalk.i64_in _ (by omega)
  have hz0 : ¬ (S.Z : Int) = 0 := by omega
  have hz2 : ¬ S.Z = 0 := by omega
  rw [← hxx] at hx
  have b1 : decide ((n : Int) < 0) = false := by simp
  have b2 : decide (T.bl.length ≤ x) = true := by simpa using hx
  clear hxx hT hA hok hxn hlm
  go_enter Try.func68, Try.ntmps68
  go_wp2_with fail
  go_quiet (fail)
  go_wp2_with fail
  go_ret2
  exact ⟨rfl, _, rfl⟩
#print axioms place_no
end Go.Proofs.Ytomjfhlcploblaa.Pool
