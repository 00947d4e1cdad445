/- What may be chosen; the rules in their order. Conditions: none. -/
import Derived.Test.YtfnphepiopncbaaDoorPickE
namespace Go.Proofs.YtfnphepiopncbaaDoor.Pick
open Go.RowKit Go.Proofs.YtfnphepiopncbaaDoorW.PrintWords Go.Proofs.YtfnphepiopncbaaDoorW.PrintLast Go.Proofs.YtfnphepiopncbaaDoorW.PrintMore Go.Proofs.YtfnphepiopncbaaDoor.Srt
open Go.Proofs.YtfnphepiopncbaaDoor.PPickSound (S45 z45 k45 k45_mk)
attribute [local go_sem] max2_int min2_int max_two min_two max_three min_three max_four min_four
set_option linter.unusedVariables false
set_option linter.unusedSimpArgs false

/-- Is a token allowed? -/
def mayb (al : List Bool) (t : Nat) : Bool := al.length == 0 || (decide (t < al.length) && al.getD t false)
set_option maxHeartbeats 1000000 in
theorem may_calls (bx c : Nat) (A : Option Addr) (al : List Bool) (t : Nat) (w : World) (hb : w.cell? ⟨bx, 0, none⟩ = some (.slice A al.length c)) (hC : Kd.bool.C w A al.length al) :
    Calls Tryd.prog 32 #[.int .i64 t, .pointer (some ⟨bx, 0, none⟩)] w (Says (.bool (mayb al t)) w) := by
  obtain ⟨n, hn⟩ : ∃ n, n = al.length := ⟨_, rfl⟩
  rw [← hn] at hb hC
  rcases Nat.eq_zero_or_pos n with h0 | h0
  · have e : mayb al t = true := by unfold mayb; rw [← hn, h0]; rfl
    rw [e]
    subst h0
    clear hn hC e
    go_enter Tryd.func32, Tryd.ntmps32
    go_wp2
    go_ret
    exact ⟨rfl, 0, rfl⟩
  · have hz : ((n : Int) == 0) = false := by simp; omega
    have hz2 : ¬ n = 0 := by omega
    by_cases ht : t < n
    · obtain ⟨ad, rfl, hc⟩ := Kd.at_bool hC (t : Int) (by omega) (by omega)
      rw [Int.toNat_natCast] at hc
      have e : mayb al t = rdOf false al (t : Int) := by
        unfold mayb rdOf
        rw [← hn, Int.toNat_natCast]
        simp [hz2, ht]
      rw [e]
      obtain ⟨b, hb2⟩ : ∃ b, rdOf false al (t : Int) = b := ⟨_, rfl⟩
      rw [hb2] at hc ⊢
      clear hn hC e hb2
      go_enter Tryd.func32, Tryd.ntmps32
      go_wp2
      go_ret
      exact ⟨rfl, 0, rfl⟩
    · have e : mayb al t = false := by
        unfold mayb
        rw [← hn]
        simp [hz2, ht]
      rw [e]
      clear hn hC e
      go_enter Tryd.func32, Tryd.ntmps32
      go_wp2
      go_ret
      exact ⟨rfl, 0, rfl⟩
#print axioms may_calls
def fv (f : Nat) : Value := .func (.func f) #[] #[]
set_option maxHeartbeats 1000000 in
theorem rules_calls (w : World) : Calls Tryd.prog 35 #[] w (fun e w' => ∃ g, e = .returned (.slice (some ⟨g, 0, none⟩) 4 4) ∧ w.heap.size ≤ g ∧ w'.cell? ⟨g, 0, none⟩ = some (fv 57) ∧ w'.cell? ⟨g, 1, none⟩ = some (fv 58) ∧ w'.cell? ⟨g, 2, none⟩ = some (fv 59) ∧ w'.cell? ⟨g, 3, none⟩ = some (fv 61) ∧ Below w.heap.size w w') := by
  go_enter Tryd.func35, Tryd.ntmps35
  go_wp2
  go_ret
  exact ⟨w.heap.size, rfl, Nat.le_refl _, by simp [go_sem, fv], by simp [go_sem, fv], by simp [go_sem, fv], by simp [go_sem, fv], below_alloc (Below.refl _ _) _⟩
#print axioms rules_calls
end Go.Proofs.YtfnphepiopncbaaDoor.Pick
