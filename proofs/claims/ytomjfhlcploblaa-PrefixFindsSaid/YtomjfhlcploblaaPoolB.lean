/- What the pool's small functions answer. Conditions: a pool in memory. -/
import Derived.Test.YtomjfhlcploblaaChecked
import Derived.Test.YtomjfhlcploblaaPoolA
import Derived.IntWalk
import Derived.Deep.DrawnRows
namespace Go.Proofs.Ytomjfhlcploblaa.Pool
open Go.RowKit Go.Proofs.YtomjfhlcploblaaW.PrintWords
set_option linter.unusedVariables false
set_option linter.unusedSimpArgs false

theorem infoI8 : (Try.prog.info? 168).map (fun i => (i.zero, i.size, i.bytes)) = some (some (.int .i8 0), 1, 1) := by kernel_rfl
theorem cutI8 {g n c l h : Nat} (h1 : l < h) (h2 : h ≤ c) (o : Nat) : ∀ W : World, (Instr.slice 32 (.slice (some ⟨g, o, none⟩) n c) (some (.int .i64 (l : Int))) (some (.int .i64 (h : Int))) none).run Try.prog W = .ok (.slice (some ⟨g, o + l, none⟩) (h - l) (c - l)) W := by
  obtain ⟨i, hi, _, hs, _⟩ := info_parts infoI8
  exact cut_lh _ _ Try.underlying32 hi hs g o n c l h h1 h2
def Quiet (w : World) (v : Value) (e : Ending) (w' : World) : Prop := e = .returned v ∧ ∃ j, w' = w.drewN j

set_option maxHeartbeats 2000000 in
theorem all_calls (d : Ad) (S : Pl) (w : World) (hA : At w d S) (hok : S.Ok) (g n c s m f t : Nat) (hm : 1 ≤ m) (hf : f = s * S.one) (ht : t = m * S.one) (hn : f + t ≤ c) (hc : c ≤ 1048576) :
    Calls Try.prog 60 #[.pointer (some ⟨d.p, 0, none⟩), .slice (some ⟨g, 0, none⟩) n c, .int .i64 s, .int .i64 m] w (Quiet w (.slice (some ⟨g, f, none⟩) t (c - f))) := by
  obtain ⟨q0, q1, _⟩ := hA.fields
  obtain ⟨o, ho⟩ : ∃ o, o = S.one := ⟨_, rfl⟩
  have ho1 : 1 ≤ o := by rw [ho]; exact Nat.mul_pos hok.L1 hok.W1
  have ho2 : o ≤ 128 := by rw [ho]; exact Nat.mul_le_mul hok.L2 hok.W2
  have e1 : IntKind.i64.wrap ((S.L : Int) * (S.W : Int)) = (o : Int) := by
    have : (S.L : Int) * (S.W : Int) = (o : Int) := by rw [ho]; simp [Pl.one]
    rw [this]
    exact IntWalk.i64_in _ (by omega)
  rw [← ho] at hf ht
  have hsm : s + m ≤ c := by
    have h1 : (s + m) * 1 ≤ (s + m) * o := Nat.mul_le_mul_left _ ho1
    rw [Nat.add_mul] at h1
    rw [Nat.add_mul] at h1
    omega
  obtain ⟨x, hx⟩ : ∃ x, x = s + m := ⟨_, rfl⟩
  obtain ⟨y, hy⟩ : ∃ y, y = f + t := ⟨_, rfl⟩
  have e2 : IntKind.i64.wrap ((s : Int) * (o : Int)) = (f : Int) := by
    have : (s : Int) * (o : Int) = (f : Int) := by rw [hf]; simp
    rw [this]
    exact IntWalk.i64_in _ (by omega)
  have e3 : IntKind.i64.wrap ((s : Int) + (m : Int)) = (x : Int) := by
    have : (s : Int) + (m : Int) = (x : Int) := by rw [hx]; simp
    rw [this]
    exact IntWalk.i64_in _ (by omega)
  have e4 : IntKind.i64.wrap ((x : Int) * (o : Int)) = (y : Int) := by
    have : (x : Int) * (o : Int) = (y : Int) := by rw [hy, hx, hf, ht, ← Nat.add_mul]; simp
    rw [this]
    exact IntWalk.i64_in _ (by omega)
  have hty : f < y := by
    have : 0 < m * o := Nat.mul_pos hm ho1
    omega
  have hcut := cutI8 (g := g) (n := n) hty (show y ≤ c by omega) 0
  have hyf : y - f = t := by omega
  rw [hyf, Nat.zero_add] at hcut
  clear ho hf ht hn hc hsm hx hy hty hyf ho1 ho2 hm
  go_enter Try.func60, Try.ntmps60
  go_wp2_with fail
  go_quiet (fail)
  go_wp2
  go_ret
  exact ⟨rfl, _, rfl⟩
#print axioms all_calls

set_option maxHeartbeats 2000000 in
theorem at_calls (d : Ad) (S : Pl) (w : World) (hA : At w d S) (hok : S.Ok) (g n c s l f : Nat) (hf : f = s * S.one + l * S.W) (hl : l < S.L) (hn : s * S.one + S.one ≤ c) (hc : c ≤ 1048576) :
    Calls Try.prog 101 #[.pointer (some ⟨d.p, 0, none⟩), .slice (some ⟨g, 0, none⟩) n c, .int .i64 l, .int .i64 s] w (Quiet w (.slice (some ⟨g, f, none⟩) S.W (c - f))) := by
  obtain ⟨q0, q1, _⟩ := hA.fields
  obtain ⟨x, hx⟩ : ∃ x, x = l * S.W := ⟨_, rfl⟩
  have hxo : x + S.W ≤ S.one := by
    have h1 : (l + 1) * S.W ≤ S.L * S.W := Nat.mul_le_mul_right _ (by omega)
    rw [Nat.add_mul, Nat.one_mul, ← hx] at h1
    exact h1
  have ho2 : S.one ≤ 128 := Nat.mul_le_mul hok.L2 hok.W2
  obtain ⟨y, hy⟩ : ∃ y, y = x + S.W := ⟨_, rfl⟩
  have hW1 := hok.W1
  have e1 : IntKind.i64.wrap ((l : Int) * (S.W : Int)) = (x : Int) := by
    have : (l : Int) * (S.W : Int) = (x : Int) := by rw [hx]; simp
    rw [this]
    exact IntWalk.i64_in _ (by omega)
  have e2 : IntKind.i64.wrap ((x : Int) + (S.W : Int)) = (y : Int) := by
    have : (x : Int) + (S.W : Int) = (y : Int) := by rw [hy]; simp
    rw [this]
    exact IntWalk.i64_in _ (by omega)
  have hall := fun w1 (h1 : At w1 d S) => all_calls d S w1 h1 hok g n c s 1 (s * S.one) S.one (Nat.le_refl 1) rfl (by simp) hn hc
  have hcut := cutI8 (g := g) (n := S.one) (c := c - s * S.one) (l := x) (h := y) (by omega) (by omega) (s * S.one)
  have hyx : y - x = S.W := by omega
  have hcf : c - s * S.one - x = c - f := by omega
  have hsf : s * S.one + x = f := by omega
  rw [hyx, hcf, hsf] at hcut
  generalize s * S.one = q at *
  have HA := Aside0.mk hA
  have HAll := Aside0.mk hall
  clear hf hn hc hx hxo hy hW1 ho2 hyx hcf hsf hA hall
  go_enter Try.func101, Try.ntmps101
  go_wp2_with fail
  go_quiet ((go_at_call 60; refine Calls.quiet_of (HAll.out _ (HA.out.drewN _))))
  go_wp2
  go_ret
  exact ⟨rfl, _, rfl⟩
#print axioms at_calls

/-- held's answer. -/
def Pl.heldE (S : Pl) (b : Int) : Int := if b < 0 ∨ (S.N : Int) ≤ b ∨ S.cs.getD b.toNat 0 = 0 then 61 else 0
set_option maxHeartbeats 2000000 in
theorem held_calls (d : Ad) (S : Pl) (w : World) (hA : At w d S) (hok : S.Ok) (b : Int) :
    Calls Try.prog 70 #[.pointer (some ⟨d.p, 0, none⟩), .int .i64 b] w (Quiet w (.int .i64 (S.heldE b))) := by
  obtain ⟨q0, q1, q2, q3, q4, q5, _⟩ := hA.fields
  by_cases h0 : b < 0
  · have hE : S.heldE b = 61 := by simp [Pl.heldE, h0]
    rw [hE]
    clear hA hok hE
    go_enter Try.func70, Try.ntmps70
    go_wp2
    go_ret
    exact ⟨rfl, 0, rfl⟩
  · obtain ⟨n, rfl⟩ := Int.eq_ofNat_of_zero_le (show 0 ≤ b by omega)
    by_cases h1 : S.N ≤ n
    · have hE : S.heldE (n : Int) = 61 := by simp [Pl.heldE, h1]
      rw [hE]
      have h1' : (S.N : Int) ≤ (n : Int) := by omega
      clear hA hok hE h0
      go_enter Try.func70, Try.ntmps70
      go_wp2
      go_ret
      exact ⟨rfl, 0, rfl⟩
    · have hc := hA.cnt n (by rw [hok.cl]; omega)
      obtain ⟨cv, hcv⟩ : ∃ cv, cv = S.cs.getD n 0 := ⟨_, rfl⟩
      rw [← hcv] at hc
      have h1' : ¬ (S.N : Int) ≤ (n : Int) := by omega
      have h1'' : (n : Int) < (S.N : Int) := by omega
      by_cases h2 : cv = 0
      · have hE : S.heldE (n : Int) = 61 := by simp only [Pl.heldE, Int.toNat_natCast, ← hcv, h2]; simp
        rw [hE]
        subst h2
        clear hA hok hE h0 hcv
        go_enter Try.func70, Try.ntmps70
        go_wp2
        go_ret
        exact ⟨rfl, 0, rfl⟩
      · have hE : S.heldE (n : Int) = 0 := by simp only [Pl.heldE, Int.toNat_natCast, ← hcv]; simp [h2]; omega
        rw [hE]
        have h2' : ¬ (cv : Int) = 0 := by omega
        have b1 : decide ((n : Int) < 0) = false := by simp
        have b2 : ((cv : Int) == 0) = false := by simpa using h2
        clear hA hok hE h0 hcv
        go_enter Try.func70, Try.ntmps70
        go_wp2
        go_ret
        exact ⟨rfl, 0, rfl⟩
#print axioms held_calls

theorem left_calls (d : Ad) (S : Pl) (w : World) (hA : At w d S) :
    Calls Try.prog 25 #[.pointer (some ⟨d.p, 0, none⟩)] w (Quiet w (.int .i64 (S.left : Int))) := by
  obtain ⟨q0, q1, q2, q3, q4, q5, _⟩ := hA.fields
  clear hA
  go_enter Try.func25, Try.ntmps25
  go_wp2
  go_ret
  exact ⟨rfl, 0, rfl⟩

/-- Count's answer. -/
def Pl.countE (S : Pl) (b : Int) : Int := if b < 0 then 0 else ((S.cs.getD b.toNat 0 : Nat) : Int)
theorem Pl.held_count {S : Pl} (hok : S.Ok) (b : Int) : (S.heldE b = 0 → 0 ≤ b ∧ b < S.N ∧ S.countE b ≠ 0) ∧ (S.heldE b ≠ 0 → S.heldE b = 61 ∧ S.countE b = 0) := by
  unfold Pl.heldE Pl.countE
  by_cases h0 : b < 0
  · simp [h0]
  · by_cases h1 : (S.N : Int) ≤ b
    · have : S.cs.getD b.toNat 0 = 0 := by
        rw [List.getD_eq_getElem?_getD, List.getElem?_eq_none (by rw [hok.cl]; omega)]
        rfl
      simp only [h0, h1, this]
      simp
    · by_cases h2 : S.cs.getD b.toNat 0 = 0
      · simp only [h0, h1, h2]
        simp
      · simp only [h0, h1, h2]
        simp
        exact ⟨by omega, by omega, by simpa using h2⟩
set_option maxHeartbeats 2000000 in
theorem count_calls (d : Ad) (S : Pl) (w : World) (hA : At w d S) (hok : S.Ok) (b : Int) :
    Calls Try.prog 34 #[.pointer (some ⟨d.p, 0, none⟩), .int .i64 b] w (Quiet w (.int .i64 (S.countE b))) := by
  have hh := held_calls d S w hA hok b
  obtain ⟨ha, hb⟩ := Pl.held_count hok b
  obtain ⟨q0, q1, q2, q3, q4, q5, _⟩ := hA.fields
  by_cases he : S.heldE b = 0
  · obtain ⟨g1, g2, g3⟩ := ha he
    obtain ⟨n, rfl⟩ := Int.eq_ofNat_of_zero_le g1
    have hc := hA.cnt n (by rw [hok.cl]; omega)
    have e : S.countE (n : Int) = ((S.cs.getD n 0 : Nat) : Int) := by unfold Pl.countE; rw [if_neg (by omega), Int.toNat_natCast]
    rw [e]
    generalize S.cs.getD n 0 = cv at *
    rw [he] at hh
    clear ha hb hA hok g3 e he
    go_enter Try.func34, Try.ntmps34
    go_wp2_with (go_at_call 70; refine hh.mono ?_; rintro e w' ⟨rfl, j, rfl⟩)
    go_ret
    exact ⟨rfl, j, rfl⟩
  · obtain ⟨g1, g2⟩ := hb he
    rw [g2]
    rw [g1] at hh
    clear ha hb hA hok g2 g1 he
    go_enter Try.func34, Try.ntmps34
    go_wp2_with (go_at_call 70; refine hh.mono ?_; rintro e w' ⟨rfl, j, rfl⟩)
    go_ret
    exact ⟨rfl, j, rfl⟩
#print axioms count_calls
end Go.Proofs.Ytomjfhlcploblaa.Pool
