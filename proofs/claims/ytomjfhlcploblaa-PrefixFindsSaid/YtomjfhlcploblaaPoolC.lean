/- Whether a slot is in use; a block held once more, once less. Conditions: a pool in memory. -/
import Derived.Test.YtomjfhlcploblaaPoolB
namespace Go.Proofs.Ytomjfhlcploblaa.Pool
open Go.RowKit Go.Proofs.YtomjfhlcploblaaW.PrintWords
set_option linter.unusedVariables false
set_option linter.unusedSimpArgs false

/-- slot's answer. -/
def Pl.slotE (S : Pl) (l s : Int) : Int := if l < 0 ∨ (S.L : Int) ≤ l ∨ s < 0 ∨ ((S.N * S.Z : Nat) : Int) ≤ s ∨ S.cs.getD (s.toNat / S.Z) 0 = 0 then 62 else 0
theorem Pl.slot_zero {S : Pl} (l s : Int) (h : S.slotE l s = 0) : 0 ≤ l ∧ l < S.L ∧ 0 ≤ s ∧ s < ((S.N * S.Z : Nat) : Int) ∧ S.cs.getD (s.toNat / S.Z) 0 ≠ 0 := by
  unfold Pl.slotE at h
  split at h
  · cases h
  · omega
theorem Pl.slot_yes {S : Pl} (l s : Int) (h : S.slotE l s ≠ 0) : S.slotE l s = 62 := by
  unfold Pl.slotE at h ⊢
  split
  · rfl
  · rename_i h1
    rw [if_neg h1] at h
    exact absurd rfl h
set_option maxHeartbeats 4000000 in
theorem slot_calls (d : Ad) (S : Pl) (w : World) (hA : At w d S) (hok : S.Ok) (l s : Int) :
    Calls Try.prog 63 #[.pointer (some ⟨d.p, 0, none⟩), .int .i64 l, .int .i64 s] w (Quiet w (.int .i64 (S.slotE l s))) := by
  obtain ⟨q0, q1, q2, q3, q4, q5, _⟩ := hA.fields
  by_cases h0 : l < 0
  · have hE : S.slotE l s = 62 := by unfold Pl.slotE; rw [if_pos (.inl h0)]
    rw [hE]
    have b1 : decide (l < 0) = true := by simpa using h0
    clear hA hok hE
    go_enter Try.func63, Try.ntmps63
    go_wp2_with fail
    go_quiet (fail)
    go_wp2
    go_ret
    exact ⟨rfl, _, rfl⟩
  have b1 : decide (l < 0) = false := by simpa using h0
  by_cases h1 : (S.L : Int) ≤ l
  · have hE : S.slotE l s = 62 := by unfold Pl.slotE; rw [if_pos (.inr (.inl h1))]
    rw [hE]
    have b2 : decide ((S.L : Int) ≤ l) = true := by simpa using h1
    clear hA hok hE
    go_enter Try.func63, Try.ntmps63
    go_wp2_with fail
    go_quiet (fail)
    go_wp2
    go_ret
    exact ⟨rfl, _, rfl⟩
  have b2 : decide ((S.L : Int) ≤ l) = false := by simpa using h1
  by_cases h2 : s < 0
  · have hE : S.slotE l s = 62 := by unfold Pl.slotE; rw [if_pos (.inr (.inr (.inl h2)))]
    rw [hE]
    have b3 : decide (s < 0) = true := by simpa using h2
    clear hA hok hE
    go_enter Try.func63, Try.ntmps63
    go_wp2_with fail
    go_quiet (fail)
    go_wp2
    go_ret
    exact ⟨rfl, _, rfl⟩
  have b3 : decide (s < 0) = false := by simpa using h2
  obtain ⟨m, hm⟩ : ∃ m, m = S.N * S.Z := ⟨_, rfl⟩
  have hm2 : m ≤ 4096 := by rw [hm]; exact Nat.mul_le_mul hok.N2 hok.Z2
  have e1 : IntKind.i64.wrap ((S.N : Int) * (S.Z : Int)) = (m : Int) := by
    have : (S.N : Int) * (S.Z : Int) = (m : Int) := by rw [hm]; simp
    rw [this]
    exact IntWalk.i64_in _ (by omega)
  by_cases h3 : (m : Int) ≤ s
  · have hE : S.slotE l s = 62 := by unfold Pl.slotE; rw [if_pos (.inr (.inr (.inr (.inl (by rw [← hm]; exact h3)))))]
    rw [hE]
    have b4 : decide ((m : Int) ≤ s) = true := by simpa using h3
    clear hA hok hE hm hm2
    go_enter Try.func63, Try.ntmps63
    go_wp2_with fail
    go_quiet (fail)
    go_wp2
    go_ret
    exact ⟨rfl, _, rfl⟩
  obtain ⟨n, rfl⟩ := Int.eq_ofNat_of_zero_le (show 0 ≤ s by omega)
  have b4 : decide (m ≤ n) = false := by simpa using h3
  obtain ⟨x, hx⟩ : ∃ x, x = n / S.Z := ⟨_, rfl⟩
  have hxN : x < S.N := by
    rw [hx]
    have hz := hok.Z1
    exact Nat.div_lt_of_lt_mul (by rw [Nat.mul_comm, ← hm]; omega)
  have e2 : IntKind.i64.wrap ((n : Int) / (S.Z : Int)) = (x : Int) := by
    have : (n : Int) / (S.Z : Int) = (x : Int) := by rw [hx]; simp
    rw [this]
    have := hok.N2
    exact IntWalk.i64_in _ (by omega)
  have hz0 : ¬ (S.Z : Int) = 0 := by have := hok.Z1; omega
  have hz1 : ((S.Z : Int) == 0) = false := by simpa using hz0
  have hc := hA.cnt x (by rw [hok.cl]; exact hxN)
  obtain ⟨cv, hcv⟩ : ∃ cv, cv = S.cs.getD x 0 := ⟨_, rfl⟩
  rw [← hcv] at hc
  have hxi : (x : Int) < (S.N : Int) := by omega
  have hxi0 : (0 : Int) ≤ (x : Int) := by omega
  by_cases h4 : cv = 0
  · have hE : S.slotE l (n : Int) = 62 := by
      unfold Pl.slotE
      rw [if_pos (.inr (.inr (.inr (.inr (by rw [Int.toNat_natCast, ← hx, ← hcv]; exact h4)))))]
    rw [hE]
    subst h4
    have hz2 : ¬ S.Z = 0 := by omega
    clear hA hok hE hm hm2 hx hcv
    go_enter Try.func63, Try.ntmps63
    go_wp2_with fail
    go_quiet (fail)
    go_wp2
    go_ret
    exact ⟨rfl, _, rfl⟩
  · have hE : S.slotE l (n : Int) = 0 := by
      unfold Pl.slotE
      rw [if_neg]
      rw [Int.toNat_natCast, ← hx, ← hcv, ← hm]
      omega
    rw [hE]
    have hz2 : ¬ S.Z = 0 := by omega
    have b5 : ((cv : Int) == 0) = false := by simpa using h4
    clear hA hok hE hm hm2 hx hcv
    go_enter Try.func63, Try.ntmps63
    go_wp2_with fail
    go_quiet (fail)
    go_wp2
    go_ret
    exact ⟨rfl, _, rfl⟩
#print axioms slot_calls

/-! ### counts -/
def Pl.setC (S : Pl) (b c : Nat) : Pl := { S with cs := S.cs.set b c }
theorem Pl.setC_ok {S : Pl} (h : S.Ok) (b c : Nat) (hc : c < 4611686018427387904) : (S.setC b c).Ok :=
  ⟨h.L1, h.L2, h.W1, h.W2, h.N1, h.N2, h.Z1, h.Z2, by simp [Pl.setC, h.cl], h.kl, h.vl, fun x hx => by
    rcases List.mem_or_eq_of_mem_set hx with hx | rfl
    · exact h.cb x hx
    · exact hc⟩
theorem count_le {l : List Nat} : l.count 0 ≤ l.length := List.count_le_length
theorem count_set : ∀ (l : List Nat) (b c : Nat), b < l.length → (l.set b c).count 0 + (if l.getD b 0 = 0 then 1 else 0) = l.count 0 + (if c = 0 then 1 else 0)
  | [], b, c, h => by simp at h
  | x :: l, 0, c, h => by
    simp only [List.set_cons_zero, List.count_cons, List.getD_cons_zero]
    by_cases hx : x = 0 <;> by_cases hc : c = 0 <;> simp [hx, hc]
  | x :: l, b + 1, c, h => by
    have := count_set l b c (by simpa using h)
    simp only [List.set_cons_succ, List.count_cons, List.getD_cons_succ]
    omega
theorem ints_set (l : List Nat) (b c : Nat) : (ints l).toArray.setIfInBounds b (.int .i64 (c : Int)) = (ints (l.set b c)).toArray := by
  simp [ints, List.map_set]
/-- A count is stored. -/
theorem At.set_count {w : World} {d : Ad} {S : Pl} (h : At w d S) (b c : Nat) (m : Nat) (hm : m = (S.setC b c).left) :
    At ((w.setCell ⟨d.c, b, none⟩ (.int .i64 (c : Int))).setCell ⟨d.p, 5, none⟩ (.int .i64 (m : Int))) d (S.setC b c) := by
  have h1 := blk_set h.c b (.int .i64 (c : Int))
  rw [ints_set] at h1
  have h2 := blk_set (blk_far h.p (p := ⟨d.c, b, none⟩) h.pc (.int .i64 (c : Int))) 5 (.int .i64 (m : Int))
  refine ⟨?_, blk_far h1 (p := ⟨d.p, 5, none⟩) (Ne.symm h.pc) _, blk_far (blk_far h.k (p := ⟨d.c, b, none⟩) (Ne.symm h.ck) _) (p := ⟨d.p, 5, none⟩) (Ne.symm h.pk) _, blk_far (blk_far h.v (p := ⟨d.c, b, none⟩) (Ne.symm h.cv) _) (p := ⟨d.p, 5, none⟩) (Ne.symm h.pv) _, h.ne⟩
  rw [h2]
  subst hm
  rfl
theorem At.set_count' {w : World} {d : Ad} {S : Pl} (h : At w d S) (b c : Nat) (hm : S.left = (S.setC b c).left) :
    At (w.setCell ⟨d.c, b, none⟩ (.int .i64 (c : Int))) d (S.setC b c) := by
  have h1 := blk_set h.c b (.int .i64 (c : Int))
  rw [ints_set] at h1
  refine ⟨?_, h1, blk_far h.k (p := ⟨d.c, b, none⟩) (Ne.symm h.ck) _, blk_far h.v (p := ⟨d.c, b, none⟩) (Ne.symm h.cv) _, h.ne⟩
  rw [blk_far h.p (p := ⟨d.c, b, none⟩) h.pc]
  simp only [cellsOf, hm]
  rfl

def Pl.holdS (S : Pl) (b : Int) : Pl := if S.heldE b = 0 then S.setC b.toNat (S.cs.getD b.toNat 0 + 1) else S
def Pl.dropS (S : Pl) (b : Int) : Pl := if S.heldE b = 0 then S.setC b.toNat (S.cs.getD b.toNat 0 - 1) else S
def Did (d : Ad) (w : World) (v : Value) (S : Pl) (e : Ending) (w' : World) : Prop := e = .returned v ∧ At w' d S ∧ Ap d.own w w'

set_option maxHeartbeats 4000000 in
theorem hold_calls (d : Ad) (S : Pl) (w : World) (hA : At w d S) (hok : S.Ok) (b : Int) :
    Calls Try.prog 69 #[.pointer (some ⟨d.p, 0, none⟩), .int .i64 b] w (Did d w (.int .i64 (S.heldE b)) (S.holdS b)) := by
  have hh := held_calls d S w hA hok b
  obtain ⟨ha, hb⟩ := Pl.held_count hok b
  obtain ⟨q0, q1, q2, q3, q4, q5, _⟩ := hA.fields
  have HA := Aside0.mk hA
  by_cases he : S.heldE b = 0
  · obtain ⟨g1, g2, g3⟩ := ha he
    obtain ⟨n, rfl⟩ := Int.eq_ofNat_of_zero_le g1
    have hnl : n < S.cs.length := by rw [hok.cl]; omega
    have hc := hA.cnt n hnl
    have hf : w.frozen? ⟨d.c, n, none⟩ = false := blk_frozen hA.c n
    have hcb : S.cs.getD n 0 < 4611686018427387904 := hok.cb _ (by simp [List.getD_eq_getElem?_getD, List.getElem?_eq_getElem hnl])
    have hS : S.holdS (n : Int) = S.setC n (S.cs.getD n 0 + 1) := by unfold Pl.holdS; rw [if_pos he]; rfl
    have hcne : S.cs.getD n 0 ≠ 0 := by
      intro e
      apply g3
      unfold Pl.countE
      rw [if_neg (by omega), Int.toNat_natCast, e]
      rfl
    have hleft : S.left = (S.setC n (S.cs.getD n 0 + 1)).left := by
      have := count_set S.cs n (S.cs.getD n 0 + 1) hnl
      rw [if_neg hcne, if_neg (by omega)] at this
      exact this.symm
    rw [hS]
    have HL := Aside0.mk hleft
    obtain ⟨cv, hcv⟩ : ∃ cv, cv = S.cs.getD n 0 := ⟨_, rfl⟩
    rw [← hcv] at hc hcb HL ⊢
    rw [he] at hh ⊢
    have hci : (cv : Int) < 4611686018427387904 := by omega
    clear ha hb hA hok g3 he hS hcne hleft hcv hnl
    go_enter Try.func69, Try.ntmps69
    go_wp2_with (go_at_call 70; refine hh.mono ?_; rintro e w' ⟨rfl, j, rfl⟩)
    go_ret
    refine ⟨rfl, ?_, ?_⟩
    · have := HA.out.set_count' n (cv + 1) HL.out
      exact At.drewN (by simpa using this) j
    · exact ((Ap.refl _ w).setCell (.inl (.inr (.inl rfl))) _).drewN j
  · obtain ⟨g1, g2⟩ := hb he
    have hS : S.holdS b = S := by unfold Pl.holdS; rw [if_neg he]
    rw [hS]
    rw [g1] at hh ⊢
    clear ha hb hA hok g2 g1 he hS
    go_enter Try.func69, Try.ntmps69
    go_wp2_with (go_at_call 70; refine hh.mono ?_; rintro e w' ⟨rfl, j, rfl⟩)
    go_ret
    exact ⟨rfl, HA.out.drewN j, (Ap.refl _ w).drewN j⟩
#print axioms hold_calls

set_option maxHeartbeats 4000000 in
theorem drop_calls (d : Ad) (S : Pl) (w : World) (hA : At w d S) (hok : S.Ok) (b : Int) :
    Calls Try.prog 53 #[.pointer (some ⟨d.p, 0, none⟩), .int .i64 b] w (Did d w (.int .i64 (S.heldE b)) (S.dropS b)) := by
  have hh := held_calls d S w hA hok b
  obtain ⟨ha, hb⟩ := Pl.held_count hok b
  obtain ⟨q0, q1, q2, q3, q4, q5, _⟩ := hA.fields
  have HA := Aside0.mk hA
  by_cases he : S.heldE b = 0
  · obtain ⟨g1, g2, g3⟩ := ha he
    obtain ⟨n, rfl⟩ := Int.eq_ofNat_of_zero_le g1
    have hnl : n < S.cs.length := by rw [hok.cl]; omega
    have hc := hA.cnt n hnl
    have hf : w.frozen? ⟨d.c, n, none⟩ = false := blk_frozen hA.c n
    have hf5 : w.frozen? ⟨d.p, 5, none⟩ = false := blk_frozen hA.p 5
    have hcb : S.cs.getD n 0 < 4611686018427387904 := hok.cb _ (by simp [List.getD_eq_getElem?_getD, List.getElem?_eq_getElem hnl])
    have hS : S.dropS (n : Int) = S.setC n (S.cs.getD n 0 - 1) := by unfold Pl.dropS; rw [if_pos he]; rfl
    have hcne : S.cs.getD n 0 ≠ 0 := by
      intro e
      apply g3
      unfold Pl.countE
      rw [if_neg (by omega), Int.toNat_natCast, e]
      rfl
    have hcnt := count_set S.cs n (S.cs.getD n 0 - 1) hnl
    rw [if_neg hcne] at hcnt
    have hl256 : S.left ≤ 256 := by have h1 : S.cs.count 0 ≤ S.cs.length := count_le; have h2 := hok.N2; rw [hok.cl] at h1; exact Nat.le_trans h1 h2
    rw [hS]
    obtain ⟨cv, hcv⟩ : ∃ cv, cv = S.cs.getD n 0 - 1 := ⟨_, rfl⟩
    have hcv1 : S.cs.getD n 0 = cv + 1 := by omega
    rw [hcv1] at hc hcb
    rw [← hcv] at hcnt ⊢
    have hci : (cv : Int) < 4611686018427387904 := by omega
    rw [he] at hh ⊢
    have hpc := hA.pc
    by_cases hz : cv = 0
    · rw [if_pos hz] at hcnt
      have HL : Aside0 (S.left + 1 = (S.setC n cv).left) := ⟨by show S.cs.count 0 + 1 = _; rw [← hcnt]; rfl⟩
      subst hz
      clear ha hb hA hok g3 he hS hcne hcv hcv1 hnl hcnt
      go_enter Try.func53, Try.ntmps53
      go_wp2_with (go_at_call 70; refine hh.mono ?_; rintro e w' ⟨rfl, j, rfl⟩)
      go_ret
      refine ⟨rfl, ?_, ?_⟩
      · have := HA.out.set_count n 0 (S.left + 1) HL.out
        exact At.drewN (by simpa using this) j
      · exact (((Ap.refl _ w).setCell (.inl (.inr (.inl rfl))) _).setCell (.inl (.inl rfl)) _).drewN j
    · rw [if_neg hz] at hcnt
      have HL : Aside0 (S.left = (S.setC n cv).left) := ⟨by show S.cs.count 0 = _; rw [show S.cs.count 0 = S.cs.count 0 + 0 from rfl, ← hcnt]; rfl⟩
      obtain ⟨cw, hcw⟩ : ∃ cw, cw = cv + 1 := ⟨_, rfl⟩
      rw [← hcw] at hc
      have e1 : IntKind.i64.wrap ((cw : Int) - 1) = (cv : Int) := by rw [IntWalk.i64_in _ (by omega)]; omega
      have b1 : ((cv : Int) == 0) = false := by simpa using hz
      have hz' : ¬ (cv : Int) = 0 := by omega
      clear hci hcb hcw hl256
      clear ha hb hA hok g3 he hS hcne hcv hcv1 hnl hcnt
      go_enter Try.func53, Try.ntmps53
      go_wp2_with (go_at_call 70; refine hh.mono ?_; rintro e w' ⟨rfl, j, rfl⟩)
      go_ret
      refine ⟨rfl, ?_, ?_⟩
      · have := HA.out.set_count' n cv HL.out
        exact At.drewN (by simpa using this) j
      · exact ((Ap.refl _ w).setCell (.inl (.inr (.inl rfl))) _).drewN j
  · obtain ⟨g1, g2⟩ := hb he
    have hS : S.dropS b = S := by unfold Pl.dropS; rw [if_neg he]
    rw [hS]
    rw [g1] at hh ⊢
    clear ha hb hA hok g2 g1 he hS
    go_enter Try.func53, Try.ntmps53
    go_wp2_with (go_at_call 70; refine hh.mono ?_; rintro e w' ⟨rfl, j, rfl⟩)
    go_ret
    exact ⟨rfl, HA.out.drewN j, (Ap.refl _ w).drewN j⟩
#print axioms drop_calls
end Go.Proofs.Ytomjfhlcploblaa.Pool
