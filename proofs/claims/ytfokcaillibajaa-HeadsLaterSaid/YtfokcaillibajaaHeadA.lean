/- The order's function that is handed to the sort: two logits compared. Conditions: the kept logits lie in memory. -/
import Derived.Test.YtfokcaillibajaaSortG
namespace Go.Proofs.Ytfokcaillibajaa.Heads
open Go.RowKit Go.Proofs.YtfokcaillibajaaW.PrintWords Go.Proofs.Ytfokcaillibajaa.Srt
set_option linter.unusedVariables false
set_option linter.unusedSimpArgs false

theorem isnan_calls (x : Int) (w : World) : Calls Try.prog 17 #[.int .i64 x] w (fun e w' => e = .returned (.bool false) ∧ ∃ q, w' = w.drewN q) := by
  have h1 : (x != x) = false := by simp
  have h2 : (x == x) = true := by simp
  go_enter Try.func17, Try.ntmps17
  go_wp2_with fail
  go_ret
  exact ⟨rfl, 0, rfl⟩
def cmpv (x y : Int) : Int := if x < y then -1 else if y < x then 1 else 0
theorem cmpc_calls (x y : Int) (w : World) : Calls Try.prog 15 #[.int .i64 x, .int .i64 y] w (fun e w' => e = .returned (.int .i64 (cmpv x y)) ∧ ∃ q, w' = w.drewN q) := by
  by_cases h1 : x < y
  · have b1 : decide (x < y) = true := by simpa using h1
    have e : cmpv x y = -1 := by unfold cmpv; rw [if_pos h1]
    rw [e]
    clear e
    go_enter Try.func15, Try.ntmps15
    go_wp2_with (go_at_call 17; (with_reducible refine Calls.mono (isnan_calls _ _) ?_); rintro e w' ⟨rfl, q, rfl⟩)
    go_ret
    exact ⟨rfl, _, by first | exact World.drewN_drewN _ _ _ | rfl⟩
  have b1 : decide (x < y) = false := by simpa using h1
  by_cases h2 : y < x
  · have b2 : decide (y < x) = true := by simpa using h2
    have e : cmpv x y = 1 := by unfold cmpv; rw [if_neg h1, if_pos h2]
    rw [e]
    clear e
    go_enter Try.func15, Try.ntmps15
    go_wp2_with (go_at_call 17; (with_reducible refine Calls.mono (isnan_calls _ _) ?_); rintro e w' ⟨rfl, q, rfl⟩)
    go_ret
    exact ⟨rfl, _, by first | exact World.drewN_drewN _ _ _ | rfl⟩
  · have b2 : decide (y < x) = false := by simpa using h2
    have e : cmpv x y = 0 := by unfold cmpv; rw [if_neg h1, if_neg h2]
    rw [e]
    clear e
    go_enter Try.func15, Try.ntmps15
    go_wp2_with (go_at_call 17; (with_reducible refine Calls.mono (isnan_calls _ _) ?_); rintro e w' ⟨rfl, q, rfl⟩)
    go_ret
    exact ⟨rfl, _, by first | exact World.drewN_drewN _ _ _ | rfl⟩
/-- The kept logits: in a box of its own a slice, in it the numbers. -/
structure Kept (kept : List Int) (bx : Nat) (p : Option Addr) (c : Nat) (w : World) : Prop where
  box : w.cell? ⟨bx, 0, none⟩ = some (.slice p kept.length c)
  row : 0 < kept.length → ∃ ad, p = some ad ∧ ∀ i, i < kept.length → w.cell? (ad.add i) = some (.int .i64 (kept.getD i 0))
def kv (kept : List Int) (z : Int) : Int := kept.getD z.toNat 0
theorem Kept.move {kept : List Int} {bx : Nat} {p : Option Addr} {c : Nat} {w w' : World} {own : Nat → Prop} (h : Kept kept bx p c w) (ha : Ap own w w') (h1 : ¬ own bx) (h2 : ∀ ad, p = some ad → ¬ own ad.block) : Kept kept bx p c w' :=
  ⟨ha.cell h.box h1, fun hn => by
    obtain ⟨ad, he, hr⟩ := h.row hn
    exact ⟨ad, he, fun i hi => ha.cell (hr i hi) (by
      have e : (ad.add i).block = ad.block := by unfold Addr.add; split <;> rfl
      rw [e]; exact h2 ad he)⟩⟩
theorem Kept.heap {kept : List Int} {bx : Nat} {p : Option Addr} {c : Nat} {w w' : World} (h : Kept kept bx p c w) (e : w'.heap = w.heap) : Kept kept bx p c w' := by
  have hc : ∀ a, w'.cell? a = w.cell? a := fun a => by simp only [World.cell?, e]
  exact ⟨(hc _).trans h.box, fun hn => by
    obtain ⟨ad, he, hr⟩ := h.row hn
    exact ⟨ad, he, fun i hi => (hc _).trans (hr i hi)⟩⟩
theorem cmpf_calls (kept : List Int) (bx c : Nat) (p : Option Addr) (w : World) (h : Kept kept bx p c w) (x y : Int) (hx : 0 ≤ x ∧ x < kept.length) (hy : 0 ≤ y ∧ y < kept.length) (hN : kept.length < 1152921504606846976) :
    Calls Try.prog 14 #[.int .i64 x, .int .i64 y, .pointer (some ⟨bx, 0, none⟩)] w (fun e w' => e = .returned (.int .i64 (cv (kv kept x) (kv kept y))) ∧ ∃ q, w' = w.drewN q) := by
  obtain ⟨i, rfl⟩ := Int.eq_ofNat_of_zero_le hx.1
  obtain ⟨j, rfl⟩ := Int.eq_ofNat_of_zero_le hy.1
  obtain ⟨ad, rfl, hr⟩ := h.row (by omega)
  have hb := h.box
  have c1 := hr i (by omega)
  have c2 := hr j (by omega)
  obtain ⟨u, hu⟩ : ∃ u, u = kept.getD i 0 := ⟨_, rfl⟩
  obtain ⟨v, hv⟩ : ∃ v, v = kept.getD j 0 := ⟨_, rfl⟩
  rw [← hu] at c1
  rw [← hv] at c2
  have e : cv (kv kept (i : Int)) (kv kept (j : Int)) = cmpv v u := by unfold cv kv cmpv; rw [Int.toNat_natCast, Int.toNat_natCast, ← hu, ← hv]
  rw [e]
  obtain ⟨n, hn⟩ : ∃ n, n = kept.length := ⟨_, rfl⟩
  rw [← hn] at hb hx hy hN
  have hi : i < n := by omega
  have hj : j < n := by omega
  have HC := Aside0.mk (cmpc_calls v u)
  clear e hu hv hr h hx hy hn
  go_enter Try.func14, Try.ntmps14
  go_wp2_with fail
  go_quiet (first | (go_at_call 15; refine Calls.quiet_of (HC.out _)))
  go_wp2_with fail
  go_ret
  exact ⟨rfl, _, rfl⟩
theorem kept_cmp (kept : List Int) (bx c g : Nat) (p : Option Addr) (hN : kept.length < 1152921504606846976) (h1 : bx ≠ g) (h2 : ∀ ad, p = some ad → ad.block ≠ g) :
    CmpOK g (kv kept) (fun x => 0 ≤ x ∧ x < (kept.length : Int)) (Kept kept bx p c) (.pointer (some ⟨bx, 0, none⟩)) :=
  ⟨fun W W' h ha => h.move ha h1 h2, fun W W' h e => h.heap e, fun W x y h hx hy => cmpf_calls kept bx c p W h x y hx hy hN⟩
#print axioms kept_cmp
end Go.Proofs.Ytfokcaillibajaa.Heads
