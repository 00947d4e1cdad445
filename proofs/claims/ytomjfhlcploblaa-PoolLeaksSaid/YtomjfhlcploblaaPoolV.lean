/- A position's slot in a table. Conditions: a table and its pool in memory. -/
import Derived.Test.YtomjfhlcploblaaPoolU
namespace Go.Proofs.Ytomjfhlcploblaa.Pool
open Go.RowKit Go.Proofs.YtomjfhlcploblaaW.PrintWords Go.Proofs.YtomjfhlcploblaaW.PrintMore
set_option linter.unusedVariables false
set_option linter.unusedSimpArgs false
attribute [local go_sem ↓] Go.wp_at_zero Go.wp_at_succ

/-- The slot of a position. -/
def slotOf (S : Pl) (T : Tb) (n : Nat) : Nat := T.bl.getD (n / S.Z) 0 * S.Z + n % S.Z
set_option maxHeartbeats 8000000 in
theorem tslot_ok (base : Nat) (d : Ad) (S : Pl) (T : Tb) (w : World) (hT : TAt w base d T) (hA : At w d S) (hok : S.Ok) (n : Nat) (hn : n ≤ 9223372036854775807) (hx : n / S.Z < T.bl.length) (hb : T.bl.getD (n / S.Z) 0 < S.N) :
    Calls Try.prog 26 #[.pointer (some ⟨T.t, 0, none⟩), .int .i64 n] w (Pair w (slotOf S T n : Nat) 0) := by
  have q3 := hA.fields.2.2.2.1
  obtain ⟨A, c, hv, r0, r1, hlm, hcell⟩ := hT.cells
  have hpl := place_ok base d S T w hT hA hok n hn hx
  obtain ⟨ad, had, hc⟩ := hcell (n / S.Z) hx
  subst had
  obtain ⟨x, hxx⟩ : ∃ x, x = n / S.Z := ⟨_, rfl⟩
  obtain ⟨y, hyy⟩ : ∃ y, y = n % S.Z := ⟨_, rfl⟩
  obtain ⟨b, hbb⟩ : ∃ b, b = T.bl.getD (n / S.Z) 0 := ⟨_, rfl⟩
  obtain ⟨p, hp⟩ : ∃ p, p = b * S.Z := ⟨_, rfl⟩
  have hS : slotOf S T n = p + y := by rw [slotOf, ← hbb, ← hp, ← hyy]
  have hz := hok.Z1
  have hN2 := hok.N2
  have hZ2 := hok.Z2
  have hp4 : p ≤ 4096 := by rw [hp]; exact Nat.mul_le_mul (show b ≤ 256 by omega) hZ2
  have hy16 : y < S.Z := by rw [hyy]; exact Nat.mod_lt _ hz
  have e1 : IntKind.i64.wrap ((b : Int) * (S.Z : Int)) = (p : Int) := by
    have : (b : Int) * (S.Z : Int) = (p : Int) := by rw [hp]; simp
    rw [this]
    exact IntWalk.i64_in _ (by omega)
  have e2 : (n : Int) % (S.Z : Int) = (y : Int) := by rw [hyy]; simp
  have e3 : IntKind.i64.wrap ((p : Int) + (y : Int)) = ((p + y : Nat) : Int) := by rw [IntWalk.i64_in _ (by omega)]; simp
  have hz0 : ¬ (S.Z : Int) = 0 := by omega
  have hz2 : ¬ S.Z = 0 := by omega
  rw [← hbb, ← hxx] at hc
  rw [← hxx] at hpl hx
  rw [hS]
  have hxi : (x : Int) < (T.bl.length : Int) := by omega
  clear hxx hyy hbb hp hS hT hA hok hcell hlm hN2 hZ2 hp4 hy16 hb
  go_enter Try.func26, Try.ntmps26
  go_wp2_with (first | (go_at_call 68; refine hpl.mono ?_; clear hpl; rintro e w1 ⟨rfl, j, rfl⟩) | fail)
  go_quiet (fail)
  go_wp2_with fail
  go_ret2
  exact ⟨by rw [Int.natCast_add]; rfl, j + nq, by rw [← World.drewN_drewN]⟩
#print axioms tslot_ok
theorem tslot_no (base : Nat) (d : Ad) (S : Pl) (T : Tb) (w : World) (hT : TAt w base d T) (hA : At w d S) (hok : S.Ok) (n : Nat) (hn : n ≤ 9223372036854775807) (hx : T.bl.length ≤ n / S.Z) :
    Calls Try.prog 26 #[.pointer (some ⟨T.t, 0, none⟩), .int .i64 n] w (Pair w 0 62) := by
  have hpl := place_no base d S T w hT hA hok n hn hx
  clear hT hA hok hx
  go_enter Try.func26, Try.ntmps26
  go_wp2_with (first | (go_at_call 68; refine hpl.mono ?_; clear hpl; rintro e w1 ⟨rfl, j, rfl⟩) | fail)
  go_ret2
  exact ⟨rfl, j, rfl⟩
#print axioms tslot_no
end Go.Proofs.Ytomjfhlcploblaa.Pool
