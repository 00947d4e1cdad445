/- The greatest allowed logit; the law's may. Conditions: none. -/
import Derived.Test.YtfnphepiopncbaaDoorPickKP
namespace Go.Proofs.YtfnphepiopncbaaDoor.Pick
open Go.RowKit Go.Proofs.YtfnphepiopncbaaDoorW.PrintWords Go.Proofs.YtfnphepiopncbaaDoor.Srt
open Go.Proofs.YtfnphepiopncbaaDoor.PPickSound (S45 z45 k45 k45_mk)
open Go.Proofs.YtfnphepiopncbaaDoor.Heads (kI seqOf kv)
set_option linter.unusedVariables false
set_option linter.unusedSimpArgs false

set_option maxHeartbeats 1000000 in
theorem lmay_calls (c : Nat) (A : Option Addr) (al : List Bool) (t : Nat) (w : World) (hC : Kd.bool.C w A al.length al) :
    Calls Tryd.prog 31 #[.slice A al.length c, .int .i64 t] w (Says (.bool (mayb al t)) w) := by
  obtain ⟨n, hn⟩ : ∃ n, n = al.length := ⟨_, rfl⟩
  rw [← hn] at hC ⊢
  rcases Nat.eq_zero_or_pos n with h0 | h0
  · have e : mayb al t = true := by unfold mayb; rw [← hn, h0]; rfl
    rw [e]
    subst h0
    clear hn hC e
    go_enter Tryd.func31, Tryd.ntmps31
    go_wp2
    go_ret
    exact ⟨rfl, 0, rfl⟩
  · have hz : ((n : Int) == 0) = false := by simp; omega
    have hz2 : ¬ n = 0 := by omega
    by_cases ht : t < n
    · obtain ⟨ad, rfl, hc⟩ := Kd.at_bool hC (t : Int) (by omega) (by omega)
      rw [Int.toNat_natCast] at hc
      have e : mayb al t = rdOf false al (t : Int) := by
        unfold mayb rdOf
        rw [← hn, Int.toNat_natCast]
        simp [hz2, ht]
      rw [e]
      obtain ⟨b, hb2⟩ : ∃ b, rdOf false al (t : Int) = b := ⟨_, rfl⟩
      rw [hb2] at hc ⊢
      clear hn hC e hb2
      go_enter Tryd.func31, Tryd.ntmps31
      go_wp2
      go_ret
      exact ⟨rfl, 0, rfl⟩
    · have e : mayb al t = false := by
        unfold mayb
        rw [← hn]
        simp [hz2, ht]
      rw [e]
      clear hn hC e
      go_enter Tryd.func31, Tryd.ntmps31
      go_wp2
      go_ret
      exact ⟨rfl, 0, rfl⟩
/-- The first greatest one of the allowed ones so far, or -1. -/
def Best (l : List Int) (al : List Bool) (i : Nat) (b : Int) : Prop := (b = -1 ∧ ∀ j : Nat, j < i → mayb al j = false) ∨ (∃ k : Nat, b = k ∧ k < i ∧ mayb al k = true ∧ ∀ j : Nat, j < i → mayb al j = true → l.getD j 0 < l.getD k 0 ∨ (l.getD j 0 = l.getD k 0 ∧ k ≤ j))
theorem Best.zero (l : List Int) (al : List Bool) : Best l al 0 (-1) := .inl ⟨rfl, fun j h => by omega⟩
theorem Best.keep {l : List Int} {al : List Bool} {i : Nat} {b : Int} (h : Best l al i b) (hm : mayb al i = false) : Best l al (i + 1) b := by
  rcases h with ⟨h1, h2⟩ | ⟨k, h1, h2, h3, h4⟩
  · refine .inl ⟨h1, fun j hj => ?_⟩
    rcases Nat.lt_or_ge j i with h | h
    · exact h2 j h
    · obtain rfl : j = i := by omega
      exact hm
  · refine .inr ⟨k, h1, by omega, h3, fun j hj hmj => ?_⟩
    rcases Nat.lt_or_ge j i with h | h
    · exact h4 j h hmj
    · obtain rfl : j = i := by omega
      rw [hm] at hmj
      cases hmj
theorem Best.first {l : List Int} {al : List Bool} {i : Nat} (h : Best l al i (-1)) (hm : mayb al i = true) : Best l al (i + 1) (i : Int) := by
  rcases h with ⟨h1, h2⟩ | ⟨k, h1, h2, h3, h4⟩
  · refine .inr ⟨i, rfl, by omega, hm, fun j hj hmj => ?_⟩
    rcases Nat.lt_or_ge j i with h | h
    · rw [h2 j h] at hmj; cases hmj
    · obtain rfl : j = i := by omega
      exact .inr ⟨rfl, Nat.le_refl _⟩
  · omega
theorem Best.more {l : List Int} {al : List Bool} {i k : Nat} (h : Best l al i (k : Int)) (hm : mayb al i = true) (hlt : l.getD k 0 < l.getD i 0) : Best l al (i + 1) (i : Int) := by
  rcases h with ⟨h1, h2⟩ | ⟨k', h1, h2, h3, h4⟩
  · omega
  · obtain rfl : k = k' := by omega
    refine .inr ⟨i, rfl, by omega, hm, fun j hj hmj => ?_⟩
    rcases Nat.lt_or_ge j i with h | h
    · have := h4 j h hmj
      omega
    · obtain rfl : j = i := by omega
      exact .inr ⟨rfl, Nat.le_refl _⟩
theorem Best.less {l : List Int} {al : List Bool} {i k : Nat} (h : Best l al i (k : Int)) (hlt : ¬ l.getD k 0 < l.getD i 0) : Best l al (i + 1) (k : Int) := by
  rcases h with ⟨h1, h2⟩ | ⟨k', h1, h2, h3, h4⟩
  · omega
  · obtain rfl : k = k' := by omega
    refine .inr ⟨k, rfl, by omega, h3, fun j hj hmj => ?_⟩
    rcases Nat.lt_or_ge j i with h | h
    · exact h4 j h hmj
    · obtain rfl : j = i := by omega
      omega
theorem Best.lt {l : List Int} {al : List Bool} {i k : Nat} (h : Best l al i (k : Int)) : k < i := by
  rcases h with ⟨h1, h2⟩ | ⟨k', h1, h2, h3, h4⟩ <;> omega
theorem wide_id {x : Int} (h1 : -16777216 ≤ x) (h2 : x ≤ 16777216) : wide x = x := by
  unfold wide clampf
  repeat' split
  all_goals omega
/-- The head of the allowed ones, in their order. -/
theorem firsts_best {l : List Int} {al : List Bool} {b : Int} (hb : Best l al l.length b) (hr : ∀ j : Nat, j < l.length → -16777216 ≤ l.getD j 0 ∧ l.getD j 0 ≤ 16777216) :
    (b = -1 ∧ firsts (scores 256 [] l) al = []) ∨ (0 ≤ b ∧ ∃ x xs, firsts (scores 256 [] l) al = x :: xs ∧ x.f0 = b) := by
  have hkv : ∀ z : Int, 0 ≤ z → z < (l.length : Int) → kv (scores 256 [] l) z = l.getD z.toNat 0 := fun z h0 hz => by
    have h2 := hr z.toNat (by omega)
    rw [kv_scores 256 h0 hz]
    exact wide_id h2.1 h2.2
  unfold firsts sel seqOf
  rw [scores_len, List.filter_map, List.map_map]
  obtain ⟨K, hK⟩ : ∃ K, kv (scores 256 [] l) = K := ⟨_, rfl⟩
  rw [hK] at hkv ⊢
  obtain ⟨F, hF⟩ : ∃ F, (ordl K l.length).filter ((fun x : Int × Int => mayb al x.1.toNat) ∘ fun z => (z, K z)) = F := ⟨_, rfl⟩
  have hmem : ∀ z, z ∈ F ↔ (0 ≤ z ∧ z < (l.length : Int)) ∧ mayb al z.toNat = true := fun z => by
    rw [← hF, List.mem_filter, ordl_mem]
    rfl
  have hpair : Srtd K F := by
    rw [← hF]
    exact (ordl_srtd K l.length).filter _
  rw [hF]
  rcases hb with ⟨h1, h2⟩ | ⟨k, h1, h2, h3, h4⟩
  · refine .inl ⟨h1, ?_⟩
    cases F with
    | nil => rfl
    | cons y ys =>
      have h5 := (hmem y).1 (by simp)
      have h6 := h2 y.toNat (by omega)
      rw [h5.2] at h6
      cases h6
  · refine .inr ⟨by omega, ?_⟩
    have hk : (k : Int) ∈ F := (hmem k).2 ⟨by omega, by rw [Int.toNat_natCast]; exact h3⟩
    cases F with
    | nil => cases hk
    | cons y ys =>
      refine ⟨_, _, rfl, ?_⟩
      show y = b
      rw [h1]
      rcases List.mem_cons.1 hk with e | e
      · exact e.symm
      · have h5 := (List.pairwise_cons.1 hpair).1 _ e
        have h6 := (hmem y).1 (by simp)
        have h7 := h4 y.toNat (by omega) h6.2
        have h8 := hkv y h6.1.1 h6.1.2
        have h9 := hkv (k : Int) (by omega) (by omega)
        rw [Int.toNat_natCast] at h9
        unfold Srt.ahead at h5
        rw [h8, h9] at h5
        omega
theorem later_one (p : Par) (h : p.T = 0 ∨ p.K = 1) (hp : p.ok) (l0 : List S45) : later p l0 = (l0.take 1).map oneW := by
  rw [later_eq]
  split
  · rename_i hT
    have hK : p.K = 1 := by omega
    have e : cut2 p.K l0 = l0.take 1 := by
      unfold cut2
      rw [if_pos (by omega), hK]
      rfl
    rw [e]
    cases l0 with
    | nil => rfl
    | cons x xs =>
      have e2 : wts2 p.T ((x :: xs).take 1) = [⟨x.f0, 65536⟩] := by
        show [wtf p.T x.f1 x] = _
        unfold wtf
        rw [Int.sub_self, Int.zero_mul, Int.zero_ediv, expf_zero]
      rw [e2]
      have e3 : thinN p.P [⟨x.f0, 65536⟩] = 1 := by
        unfold thinN tot cutN
        have h3 := hp.2.2.1.1
        rw [if_pos (by simp; omega)]
        rfl
      rw [e3]
      rfl
  · rfl
/-- With one candidate the choice is the first greatest allowed logit. -/
theorem chosen_best (p : Par) (h : p.T = 0 ∨ p.K = 1) (hN : p.N = 256) (hp : p.ok) (l : List Int) (pos : Int) (al : List Bool) (b : Int) (hb : Best l al l.length b) (hr : ∀ j : Nat, j < l.length → -16777216 ≤ l.getD j 0 ∧ l.getD j 0 ≤ 16777216) : chosen p l [] pos al = if b < 0 then 0 else b := by
  unfold chosen chancesR
  rw [if_pos hp]
  unfold chancesf
  rw [later_one p h hp, hN]
  rcases firsts_best hb hr with ⟨h1, h2⟩ | ⟨h1, x, xs, h2, h3⟩
  · rw [h2, h1]
    rfl
  · rw [h2, if_neg (by omega)]
    have e : ((x :: xs).take 1).map oneW = [⟨x.f0, 65536⟩] := rfl
    have h5 : tot [⟨x.f0, 65536⟩] = 65536 := rfl
    have h4 := drawn_lt p pos [⟨x.f0, 65536⟩] (by rw [h5]; decide)
    rw [e, pickf_cons, if_pos (by rw [h5] at h4; show drawn p pos _ - 65536 < 0; omega)]
    exact h3
#print axioms chosen_best
end Go.Proofs.YtfnphepiopncbaaDoor.Pick
