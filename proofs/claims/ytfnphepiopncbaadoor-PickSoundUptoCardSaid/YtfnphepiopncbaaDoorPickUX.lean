/- fix.Exp never rises as its argument falls. Conditions: none. What the chances are: allowed tokens, no two alike, weights that never rise. Conditions: none. The law's sound and some, said. Conditions: none. The walk of PickSound. Conditions: what the tables hold; the bulk. -/
import Derived.Test.YtfnphepiopncbaaDoorPickKP
import Derived.Test.YtfnphepiopncbaaDoorPPickSoundx2
import Derived.Test.YtfnphepiopncbaaDoorPPickSoundx3
namespace Go.Proofs.YtfnphepiopncbaaDoor.Pick
open Go.RowKit Go.Proofs.YtfnphepiopncbaaDoorW.PrintWords
set_option linter.unusedVariables false
set_option linter.unusedSimpArgs false

theorem step_mul {p q r M : Int} (h : q - p ≤ M) (hM : 0 ≤ M) (r0 : 0 ≤ r) (r1 : r ≤ 45425) : q * (r + 1) - p * r ≤ q + M * 45425 := by
  have e : q * (r + 1) - p * r = q + (q - p) * r := by rw [Int.mul_add, Int.sub_mul, Int.mul_one]; omega
  rw [e]
  have h1 : (q - p) * r ≤ M * r := Int.mul_le_mul_of_nonneg_right h r0
  have h2 : M * r ≤ M * 45425 := Int.mul_le_mul_of_nonneg_left r1 hM
  omega
/-- The polynomial falls. -/
theorem poly_falls (r : Int) (r0 : 0 ≤ r) (r1 : r + 1 ≤ 45425) : polyAt (r + 1) 5 ≤ polyAt r 5 := by
  have hp := poly_all r r0 (by omega)
  have hq := poly_all (r + 1) (by omega) r1
  have e2 : ∀ r, polyAt r 2 = -175978408 + shf (polyAt r 1 * r) 16 := fun r => rfl
  have e3 : ∀ r, polyAt r 3 = 536691957 + shf (polyAt r 2 * r) 16 := fun r => rfl
  have e4 : ∀ r, polyAt r 4 = -1073764153 + shf (polyAt r 3 * r) 16 := fun r => rfl
  have e5 : ∀ r, polyAt r 5 = 1073741824 + shf (polyAt r 4 * r) 16 := fun r => rfl
  simp only [shf16] at e2 e3 e4 e5
  have p2 := e2 r
  have q2 := e2 (r + 1)
  have p3 := e3 r
  have q3 := e3 (r + 1)
  have p4 := e4 r
  have q4 := e4 (r + 1)
  have p5 := e5 r
  have q5 := e5 (r + 1)
  clear e2 e3 e4 e5
  have s1 := step_mul (p := polyAt r 1) (q := polyAt (r + 1) 1) (r := r) (M := 0) (by omega) (by omega) r0 (by omega)
  have d2 : polyAt (r + 1) 2 - polyAt r 2 ≤ 543 := by omega
  have s2 := step_mul (p := polyAt r 2) (q := polyAt (r + 1) 2) (r := r) (M := 543) d2 (by omega) r0 (by omega)
  have d3 : polyAt (r + 1) 3 - polyAt r 3 ≤ 0 := by omega
  have s3 := step_mul (p := polyAt r 3) (q := polyAt (r + 1) 3) (r := r) (M := 0) d3 (by omega) r0 (by omega)
  have d4 : polyAt (r + 1) 4 - polyAt r 4 ≤ 8191 := by omega
  have s4 := step_mul (p := polyAt r 4) (q := polyAt (r + 1) 4) (r := r) (M := 8191) d4 (by omega) r0 (by omega)
  omega
theorem shf_half (v : Int) (t : Nat) : shf v (t + 1) = (v / 2 ^ t + 1) / 2 := by
  unfold shf
  rw [if_neg (by omega), Nat.add_sub_cancel]
  have e : v / 2 ^ (t + 1) = v / 2 ^ t / 2 := by
    rw [Int.pow_succ, Int.ediv_ediv_of_nonneg (by exact Int.pow_nonneg (by omega))]
  rw [e]
  omega
theorem shf_le {v v' : Int} (s : Nat) (h : v ≤ v') : shf v s ≤ shf v' s := by
  cases s with
  | zero => exact h
  | succ t =>
    rw [shf_half, shf_half]
    have h2 : v / 2 ^ t ≤ v' / 2 ^ t := Int.ediv_le_ediv (Int.pow_pos (by omega)) h
    omega
theorem shf_next (d : Nat) : shf 65536 (d + 1) = shf 32768 d := by
  cases d with
  | zero => rfl
  | succ t =>
    rw [shf_half, shf_half]
    have e : (65536 : Int) / 2 ^ (t + 1) = 32768 / 2 ^ t := by
      rw [Int.pow_succ, Int.mul_comm, ← Int.ediv_ediv_of_nonneg (by omega)]
      rfl
    rw [e]
/-- By the number below. -/
def expn (y : Nat) : Int := shf (shf (polyAt ((y % 45426 : Nat) : Int) 5) 14) (y / 45426)
theorem poly_last : 32768 ≤ shf (polyAt 45425 5) 14 := by decide +kernel
theorem poly_none : shf (polyAt 0 5) 14 = 65536 := by decide +kernel
theorem expn_falls (y : Nat) : expn (y + 1) ≤ expn y := by
  unfold expn
  by_cases h : y % 45426 = 45425
  · have e1 : (y + 1) % 45426 = 0 := by omega
    have e2 : (y + 1) / 45426 = y / 45426 + 1 := by omega
    rw [e1, e2, h]
    show shf (shf (polyAt 0 5) 14) (y / 45426 + 1) ≤ shf (shf (polyAt 45425 5) 14) (y / 45426)
    rw [poly_none, shf_next]
    exact shf_le _ poly_last
  · have e1 : (y + 1) % 45426 = y % 45426 + 1 := by omega
    have e2 : (y + 1) / 45426 = y / 45426 := by omega
    rw [e1, e2]
    have h2 := poly_falls ((y % 45426 : Nat) : Int) (by omega) (by omega)
    exact shf_le _ (shf_le _ (by rw [Int.natCast_add]; exact h2))
theorem expn_le {y y' : Nat} (h : y ≤ y') : expn y' ≤ expn y := by
  obtain ⟨k, rfl⟩ : ∃ k, y' = y + k := ⟨y' - y, by omega⟩
  clear h
  induction k with
  | zero => exact Int.le_refl _
  | succ k ih => exact Int.le_trans (expn_falls (y + k)) ih
theorem expf_expn {z : Int} (h : ¬ z < -1048576) (h0 : z ≤ 0) : expf z = expn (-z).toNat := by
  unfold expf expn
  rw [if_neg h, if_neg (by omega)]
  obtain ⟨y, hy⟩ : ∃ y : Nat, -z = (y : Int) := ⟨(-z).toNat, by omega⟩
  rw [hy]
  rfl
theorem expf_le {z z' : Int} (h : z ≤ z') (h0 : z' ≤ 0) : expf z ≤ expf z' := by
  by_cases h1 : z < -1048576
  · have e : expf z = 0 := by unfold expf; rw [if_pos h1]
    rw [e]
    exact (expf_range z').1
  · rw [expf_expn h1 (by omega), expf_expn (by omega) h0]
    exact expn_le (by omega)
#print axioms expf_le
end Go.Proofs.YtfnphepiopncbaaDoor.Pick
namespace Go.Proofs.YtfnphepiopncbaaDoor.Pick
open Go.RowKit Go.Proofs.YtfnphepiopncbaaDoorW.PrintWords Go.Proofs.YtfnphepiopncbaaDoor.Srt
open Go.Proofs.YtfnphepiopncbaaDoor.PPickSound (S45 z45 k45 k45_mk)
open Go.Proofs.YtfnphepiopncbaaDoor.Heads (kI seqOf kv)
set_option linter.unusedVariables false
set_option linter.unusedSimpArgs false

def Token (n : Nat) (al : List Bool) (x : S45) : Prop := 0 ≤ x.f0 ∧ x.f0 < n ∧ mayb al x.f0.toNat = true
def Falls (x y : S45) : Prop := y.f1 ≤ x.f1 ∧ x.f0 ≠ y.f0
structure Sound (n : Nat) (al : List Bool) (X : List S45) : Prop where
  a : ∀ x ∈ X, Token n al x
  b : ∀ x ∈ X, 1 ≤ x.f1
  c : 0 < X.length → (X.getD 0 z45).f1 = 65536
  d : X.Pairwise Falls
theorem firsts_token (sc : List Int) (al : List Bool) : ∀ x ∈ firsts sc al, Token sc.length al x := by
  intro x hx
  unfold firsts sel at hx
  rw [List.mem_map] at hx
  obtain ⟨y, hy, rfl⟩ := hx
  rw [List.mem_filter] at hy
  unfold seqOf at hy
  rw [List.mem_map] at hy
  obtain ⟨⟨z, hz, rfl⟩, hm⟩ := hy
  have := ordl_mem.1 hz
  exact ⟨this.1, this.2, hm⟩
theorem firsts_falls (sc : List Int) (al : List Bool) : (firsts sc al).Pairwise Falls := by
  unfold firsts sel seqOf
  rw [List.pairwise_map]
  refine List.Pairwise.filter _ ?_
  rw [List.pairwise_map]
  refine (ordl_srtd (kv sc) sc.length).imp ?_
  intro a b h
  unfold Srt.ahead at h
  exact ⟨by show kv sc b ≤ kv sc a; omega, by show a ≠ b; intro e; rw [e] at h; omega⟩
theorem firsts_any (sc : List Int) (al : List Bool) : firsts sc al = [] ↔ ∀ z : Nat, z < sc.length → mayb al z = false := by
  constructor
  · intro h z hz
    rcases hm : mayb al z with _ | _
    · rfl
    · exfalso
      have : (⟨(z : Int), kv sc z⟩ : S45) ∈ firsts sc al := by
        unfold firsts sel
        rw [List.mem_map]
        refine ⟨((z : Int), kv sc z), ?_, rfl⟩
        rw [List.mem_filter]
        refine ⟨?_, hm⟩
        unfold seqOf
        rw [List.mem_map]
        exact ⟨(z : Int), ordl_mem.2 ⟨by omega, by omega⟩, rfl⟩
      rw [h] at this
      cases this
  · intro h
    cases hf : firsts sc al with
    | nil => rfl
    | cons x xs =>
      have h1 := firsts_token sc al x (by rw [hf]; simp)
      have h2 := h x.f0.toNat (by have := h1.1; have := h1.2.1; omega)
      rw [h1.2.2] at h2
      cases h2
theorem wts2_falls {T : Int} (hT : 0 < T) {l1 : List S45} (h : l1.Pairwise Falls) : (wts2 T l1).Pairwise Falls := by
  unfold wts2
  rw [List.pairwise_map]
  refine h.imp_of_mem ?_
  intro x y hx hy hxy
  refine ⟨?_, hxy.2⟩
  have hmax : ∀ z ∈ l1, z.f1 ≤ (l1.getD 0 z45).f1 := by
    intro z hz
    cases l1 with
    | nil => cases hz
    | cons a l2 =>
      rcases List.mem_cons.1 hz with e | e
      · rw [e]; exact Int.le_refl _
      · exact ((List.pairwise_cons.1 h).1 z e).1
  have h1 := hmax x hx
  have h2 := hxy.1
  show expf ((y.f1 - (l1.getD 0 z45).f1) * 16384 / T) ≤ expf ((x.f1 - (l1.getD 0 z45).f1) * 16384 / T)
  refine expf_le (Int.ediv_le_ediv hT (by omega)) ?_
  have h3 : (x.f1 - (l1.getD 0 z45).f1) * 16384 / T ≤ 0 / T := Int.ediv_le_ediv hT (by omega)
  rwa [Int.zero_ediv] at h3
theorem tot_cons (x : S45) (xs : List S45) : tot (x :: xs) = x.f1 + tot xs := by
  unfold tot
  rw [List.map_cons, List.sum_cons]
theorem tot_none : ∀ {xs : List S45}, (∀ x ∈ xs, x.f1 ≤ 0) → tot xs ≤ 0 := by
  intro xs
  induction xs with
  | nil => intro _; exact Int.le_refl _
  | cons x xs ih =>
    intro h
    rw [tot_cons]
    have h1 := h x (by simp)
    have h2 := ih fun y hy => h y (List.mem_cons_of_mem _ hy)
    omega
theorem cutN_some : ∀ (xs : List S45) (h most : Int), xs.Pairwise Falls → most ≤ 1000 * (h + tot xs) → ∀ x ∈ xs.take (cutN most h xs), 1 ≤ x.f1 := by
  intro xs
  induction xs with
  | nil => intro h most _ _ x hx; simp at hx
  | cons y ys ih =>
    intro h most hf hm x hx
    unfold cutN at hx
    by_cases hlt : h * 1000 < most
    · rw [if_pos hlt, Nat.add_comm, List.take_succ_cons] at hx
      have hy : 1 ≤ y.f1 := by
        by_cases h0 : y.f1 ≤ 0
        · have := tot_none (xs := y :: ys) fun z hz => by
            rcases List.mem_cons.1 hz with e | e
            · rw [e]; exact h0
            · have := ((List.pairwise_cons.1 hf).1 z e).1
              omega
          omega
        · omega
      rcases List.mem_cons.1 hx with e | e
      · rw [e]; exact hy
      · rw [tot_cons] at hm
        exact ih (h + y.f1) most (List.pairwise_cons.1 hf).2 (by omega) x e
    · rw [if_neg hlt] at hx
      simp at hx
theorem mem_take {α : Type} {l : List α} {m : Nat} {x : α} (h : x ∈ l.take m) : x ∈ l := List.mem_of_mem_take h
theorem cut2_take (K : Int) (l0 : List S45) : ∃ m, cut2 K l0 = l0.take m := by
  unfold cut2
  split
  · exact ⟨_, rfl⟩
  · exact ⟨l0.length, List.take_length.symm⟩
theorem thinN_pos {P : Int} {xs : List S45} (hw : Wts xs) (hP : 1 ≤ P) (h : 0 < xs.length) (h1 : (xs.getD 0 z45).f1 = 65536) : 1 ≤ thinN P xs := by
  have h2 := tot_pos hw h h1
  have h3 : tot xs * 1 ≤ tot xs * P := Int.mul_le_mul_of_nonneg_left hP (by omega)
  unfold thinN
  cases xs with
  | nil => simp at h
  | cons x xs =>
    unfold cutN
    rw [if_pos (by omega)]
    omega
theorem later_sound (p : Par) (hp : p.ok) {n : Nat} {al : List Bool} {l0 : List S45} (ha : ∀ x ∈ l0, Token n al x) (hd : l0.Pairwise Falls) :
    Sound n al (later p l0) ∧ (later p l0 = [] ↔ l0 = []) ∧ (p.K = 0 ∨ (later p l0).length ≤ p.K) := by
  rw [later_eq]
  have hK := hp.2.1
  split
  · rename_i hT
    obtain ⟨m, hm⟩ := cut2_take p.K l0
    have hd1 : (cut2 p.K l0).Pairwise Falls := by rw [hm]; exact hd.sublist (List.take_sublist _ _)
    have ha1 : ∀ x ∈ cut2 p.K l0, Token n al x := by rw [hm]; exact fun x hx => ha x (mem_take hx)
    have hl1 : cut2 p.K l0 = [] ↔ l0 = [] := by
      unfold cut2
      split
      · cases l0 with
        | nil => simp
        | cons x xs =>
          have : p.K.toNat ≠ 0 := by omega
          simp [this]
      · exact Iff.rfl
    have hk1 : p.K = 0 ∨ (cut2 p.K l0).length ≤ p.K := by
      unfold cut2
      split
      · right
        rw [List.length_take]
        omega
      · left; omega
    obtain ⟨l1, e1⟩ : ∃ l1, cut2 p.K l0 = l1 := ⟨_, rfl⟩
    rw [e1] at hd1 ha1 hl1 hk1 ⊢
    have hd2 := wts2_falls hT hd1
    have hw2 := wts2_wts p.T l1
    have hlen : (wts2 p.T l1).length = l1.length := by unfold wts2; rw [List.length_map]
    have hf2 : 0 < (wts2 p.T l1).length → ((wts2 p.T l1).getD 0 z45).f1 = 65536 := fun h => wts2_first p.T l1 (by omega)
    have ha2 : ∀ x ∈ wts2 p.T l1, Token n al x := by
      intro x hx
      unfold wts2 at hx
      rw [List.mem_map] at hx
      obtain ⟨y, hy, rfl⟩ := hx
      exact ha1 y hy
    obtain ⟨X, eX⟩ : ∃ X, wts2 p.T l1 = X := ⟨_, rfl⟩
    rw [eX] at hd2 hw2 hlen hf2 ha2 ⊢
    refine ⟨⟨fun x hx => ha2 x (mem_take hx), ?_, fun h => ?_, hd2.sublist (List.take_sublist _ _)⟩, ?_, ?_⟩
    · unfold thinN
      refine cutN_some X 0 _ hd2 ?_
      have h1 := tot_nonneg hw2
      have h2 : tot X * p.P ≤ tot X * 1000 := Int.mul_le_mul_of_nonneg_left hp.2.2.1.2 h1
      omega
    · rw [List.length_take] at h
      rw [List.getD_eq_getElem?_getD, List.getElem?_take, if_pos (by omega), ← List.getD_eq_getElem?_getD]
      exact hf2 (by omega)
    · rw [← hl1]
      rcases Nat.eq_zero_or_pos X.length with h0 | h0
      · have e1 : X = [] := List.eq_nil_of_length_eq_zero h0
        have e2 : l1 = [] := List.eq_nil_of_length_eq_zero (by omega)
        rw [e1, e2]
        simp
      · have h1 := thinN_pos hw2 hp.2.2.1.1 h0 (hf2 h0)
        constructor
        · intro h
          have h2 := congrArg List.length h
          rw [List.length_take] at h2
          have h3 : (List.length (α := S45) []) = 0 := rfl
          omega
        · intro h
          have h3 : l1.length = 0 := by rw [h]; rfl
          omega
    · rcases hk1 with h | h
      · exact .inl h
      · right
        rw [List.length_take]
        omega
  · cases l0 with
    | nil => exact ⟨⟨fun x hx => by simp at hx, fun x hx => by simp at hx, fun h => by simp at h, List.Pairwise.nil⟩, by simp, by simp; omega⟩
    | cons x xs =>
      have e : ((x :: xs).take 1).map oneW = [oneW x] := rfl
      rw [e]
      refine ⟨⟨fun y hy => ?_, fun y hy => ?_, fun h => rfl, by simp⟩, by simp, by simp; omega⟩
      · rw [List.mem_singleton] at hy
        rw [hy]
        exact ha x (by simp)
      · rw [List.mem_singleton] at hy
        rw [hy]
        show (1 : Int) ≤ 65536
        decide
theorem pickf_mem : ∀ (xs : List S45) (u : Int), 0 ≤ u → u < tot xs → ∃ i, i < xs.length ∧ (xs.getD i z45).f0 = pickf u xs := by
  intro xs
  induction xs with
  | nil => intro u h0 h1; have : tot [] = 0 := rfl; omega
  | cons x xs ih =>
    intro u h0 h1
    rw [pickf_cons]
    rw [tot_cons] at h1
    split
    · exact ⟨0, by simp, rfl⟩
    · obtain ⟨i, hi, e⟩ := ih (u - x.f1) (by omega) (by omega)
      exact ⟨i + 1, by simp; omega, e⟩
/-- All that the law says of the chances and the choice. -/
theorem chancesR_sound (p : Par) (hp : p.ok) (l sn : List Int) (pos : Int) (al : List Bool) :
    Sound l.length al (chancesR p l sn al) ∧ (chancesR p l sn al = [] ↔ ∀ z : Nat, z < l.length → mayb al z = false) ∧ (p.K = 0 ∨ ((chancesR p l sn al).length : Int) ≤ p.K) ∧
    (0 < (chancesR p l sn al).length → ∃ i, i < (chancesR p l sn al).length ∧ ((chancesR p l sn al).getD i z45).f0 = chosen p l sn pos al) := by
  have hw := chancesR_wts p l sn al
  have hf := chancesR_first p l sn al
  unfold chosen
  have h := later_sound p hp (firsts_token (scores p.N sn l) al) (firsts_falls (scores p.N sn l) al)
  rw [firsts_any, scores_len] at h
  have e : chancesR p l sn al = later p (firsts (scores p.N sn l) al) := by unfold chancesR; rw [if_pos hp]; rfl
  rw [← e] at h
  refine ⟨h.1, h.2.1, h.2.2, fun h0 => ?_⟩
  have h1 := drawn_lt p pos (chancesR p l sn al) (tot_pos hw h0 (hf h0))
  exact pickf_mem _ _ h1.1 h1.2
#print axioms chancesR_sound
end Go.Proofs.YtfnphepiopncbaaDoor.Pick
namespace Go.Proofs.YtfnphepiopncbaaDoor.Pick
open Go.RowKit Go.Proofs.YtfnphepiopncbaaDoorW.PrintWords Go.Proofs.YtfnphepiopncbaaDoor.Srt
open Go.Proofs.YtfnphepiopncbaaDoor.PPickSound (S45 z45 k45 k45_mk rd_T45 augurlaw10_sound.l0 augurlaw10_sound.l1 augurlaw10_sound.j1 augurlaw10_sound.j2 augurlaw10_sound.f augurlaw10_some.l0 augurlaw10_some.f augurlaw10_may.f)
open Go.Proofs.YtfnphepiopncbaaDoor.Heads (kI seqOf kv)
set_option linter.unusedVariables false
set_option linter.unusedSimpArgs false

theorem rd_nat (X : List S45) (i : Nat) : rd_T45 X (i : Int) = X.getD i z45 := rfl
theorem mayf (al : List Bool) (t : Int) (h : 0 ≤ t) : augurlaw10_may.f al t = some (mayb al t.toNat) := by
  unfold augurlaw10_may.f mayb rdOf
  by_cases h0 : (al.length : Int) = 0
  · have h1 : al.length = 0 := by omega
    rw [if_pos h0]
    simp [h1]
  · have h1 : ¬ al.length = 0 := by omega
    rw [if_neg h0]
    by_cases h2 : t < (al.length : Int)
    · have h3 : t.toNat < al.length := by omega
      rw [if_pos h2, if_pos h]
      simp [h1, h3]
    · have h3 : ¬ t.toNat < al.length := by omega
      rw [if_neg h2]
      simp [h1, h3]
theorem getD_mem {X : List S45} {i : Nat} (h : i < X.length) : X.getD i z45 ∈ X := by
  rw [List.getD_eq_getElem?_getD, List.getElem?_eq_getElem h]
  exact List.getElem_mem _
theorem falls_at {X : List S45} (h : X.Pairwise Falls) {i j : Nat} (hij : i < j) (hj : j < X.length) : Falls (X.getD i z45) (X.getD j z45) := by
  rw [List.getD_eq_getElem?_getD, List.getD_eq_getElem?_getD, List.getElem?_eq_getElem (by omega), List.getElem?_eq_getElem hj]
  exact List.pairwise_iff_getElem.1 h i j (by omega) hj hij
theorem w64 {x : Int} (h : 0 ≤ x ∧ x ≤ 68719476736) : wrap64 x = x := by unfold wrap64; omega
theorem sound_l1 {n : Nat} {al : List Bool} {X : List S45} (hS : Sound n al X) (hl : X.length ≤ 1048576) {i : Nat} (hi : i < X.length) (hn : ∃ k, augurlaw10_sound.l0 k X n al ((i + 1 : Nat) : Int) = some true) :
    ∀ m j : Nat, j + m = i → ∃ k, augurlaw10_sound.l1 k X n al (i : Int) (j : Int) = some true := by
  intro m
  induction m with
  | zero =>
    intro j hj
    obtain ⟨k, hk⟩ := hn
    refine ⟨k + 1, ?_⟩
    simp only [augurlaw10_sound.l1]
    rw [if_neg (by omega), w64 (by omega)]
    exact hk
  | succ m ih =>
    intro j hj
    obtain ⟨k, hk⟩ := ih (j + 1) (by omega)
    refine ⟨k + 1, ?_⟩
    simp only [augurlaw10_sound.l1]
    rw [if_pos (by omega), if_pos (by omega), if_pos (by omega), if_pos (by omega), if_pos (by omega), w64 (by omega), rd_nat, rd_nat, if_neg (falls_at hS.d (by omega) hi).2]
    exact hk
theorem sound_l0 {n : Nat} {al : List Bool} {X : List S45} (hS : Sound n al X) (hl : X.length ≤ 1048576) : ∀ m i : Nat, i + m = X.length → ∃ k, augurlaw10_sound.l0 k X n al (i : Int) = some true := by
  intro m
  induction m with
  | zero =>
    intro i hi
    refine ⟨1, ?_⟩
    simp only [augurlaw10_sound.l0]
    rw [if_neg (by omega)]
  | succ m ih =>
    intro i hi
    obtain ⟨k, hk⟩ := sound_l1 hS hl (i := i) (by omega) (ih (i + 1) (by omega)) i 0 (by omega)
    refine ⟨k + 1 + 1 + 1, ?_⟩
    have hm := getD_mem (X := X) (i := i) (by omega)
    have ha := hS.a _ hm
    have hb := hS.b _ hm
    have hj2 : augurlaw10_sound.j2 (k + 1) X n al (i : Int) false = some true := by
      simp only [augurlaw10_sound.j2]
      rw [if_neg (by decide)]
      exact hk
    have hj1 : augurlaw10_sound.j1 (k + 1 + 1) X n al (i : Int) false = some true := by
      simp only [augurlaw10_sound.j1]
      rw [if_neg (by decide)]
      rcases Nat.eq_zero_or_pos i with h0 | h0
      · subst h0
        have hc := hS.c (by omega)
        rw [if_pos (by rfl), if_pos (by omega), if_pos (by omega), rd_nat, if_pos hc, if_neg (by omega)]
        exact hj2
      · have hf := falls_at hS.d (i := i - 1) (j := i) (by omega) (by omega)
        have e : wrap64 ((i : Int) - 1) = ((i - 1 : Nat) : Int) := by rw [w64 (by omega)]; omega
        rw [if_neg (by omega), if_pos (by omega), if_pos (by omega), if_pos (by omega), e, if_pos (by omega), if_pos (by omega), rd_nat, rd_nat]
        have hd : decide ((X.getD i z45).f1 > (X.getD (i - 1) z45).f1) = false := decide_eq_false (by have := hf.1; omega)
        rw [hd]
        exact hj2
    have hd : decide ((X.getD i z45).f1 < 1) = false := decide_eq_false (by omega)
    rw [augurlaw10_sound.l0, if_pos (by omega), if_pos (by omega), rd_nat, if_neg (by have := ha.1; omega), if_neg (by have := ha.2.1; omega), mayf al _ ha.1, ha.2.2]
    show (if true = true then augurlaw10_sound.j1 (k + 1 + 1) X n al (i : Int) (decide ((X.getD i z45).f1 < 1)) else augurlaw10_sound.j1 (k + 1 + 1) X n al (i : Int) true) = some true
    rw [if_pos rfl, hd]
    exact hj1
theorem sound_calls {n : Nat} {X : List S45} {al : List Bool} (hS : Sound n al X) (hl : X.length ≤ 1048576) (A0 : Option Addr) (c0 : Nat) (A2 : Option Addr) (c2 : Nat) (w : World) (h0 : Chs w A0 X) (hc0 : X.length ≤ c0) (h2 : Kd.bool.C w A2 al.length al) (hc2 : al.length ≤ c2) :
    Calls Tryd.prog 26 #[.slice A0 X.length c0, .int .i64 n, .slice A2 al.length c2] w (Says (.bool true) w) := by
  obtain ⟨k, hk⟩ := sound_l0 hS hl X.length 0 (by omega)
  refine Calls.mono (PPickSound.augurlaw10_sound.calls k A0 c0 X n A2 c2 al true w (h0.C (by omega)) hc0 h2 hc2 hk) ?_
  rintro e w' ⟨rfl, ⟨q, hq⟩⟩
  exact ⟨rfl, q, hq⟩
/-- Is any token allowed? -/
def anyb (n : Nat) (al : List Bool) : Bool := (List.range n).any (mayb al)
theorem some_l0 (n : Nat) (al : List Bool) (hn : n ≤ 1048576) : ∀ m i : Nat, i + m = n → ∃ k, augurlaw10_some.l0 k n al (i : Int) = some ((List.range' i m).any (mayb al)) := by
  intro m
  induction m with
  | zero =>
    intro i hi
    refine ⟨1, ?_⟩
    simp only [augurlaw10_some.l0]
    rw [if_neg (by omega)]
    rfl
  | succ m ih =>
    intro i hi
    obtain ⟨k, hk⟩ := ih (i + 1) (by omega)
    refine ⟨k + 1, ?_⟩
    simp only [augurlaw10_some.l0]
    rw [if_pos (by omega), mayf al _ (by omega), Int.toNat_natCast, w64 (by omega), List.range'_succ, List.any_cons]
    show (if mayb al i = true then some true else augurlaw10_some.l0 k n al ((i : Int) + 1)) = _
    rcases h : mayb al i with _ | _
    · rw [if_neg (by decide)]
      exact hk
    · rw [if_pos rfl]
      rfl
theorem some_calls (n : Nat) (al : List Bool) (hn : n ≤ 1048576) (A2 : Option Addr) (c2 : Nat) (w : World) (h2 : Kd.bool.C w A2 al.length al) (hc2 : al.length ≤ c2) :
    Calls Tryd.prog 27 #[.int .i64 n, .slice A2 al.length c2] w (Says (.bool (anyb n al)) w) := by
  obtain ⟨k, hk⟩ := some_l0 n al hn n 0 (by omega)
  rw [← List.range_eq_range'] at hk
  refine Calls.mono (PPickSound.augurlaw10_some.calls k n A2 c2 al _ w h2 hc2 hk) ?_
  rintro e w' ⟨rfl, ⟨q, hq⟩⟩
  exact ⟨rfl, q, hq⟩
theorem anyb_none {n : Nat} {al : List Bool} : anyb n al = false ↔ ∀ z : Nat, z < n → mayb al z = false := by
  unfold anyb
  rw [List.any_eq_false]
  constructor
  · intro h z hz
    have := h z (List.mem_range.2 hz)
    simpa using this
  · intro h z hz
    have := h z (List.mem_range.1 hz)
    simp [this]
#print axioms sound_calls
#print axioms some_calls
end Go.Proofs.YtfnphepiopncbaaDoor.Pick
namespace Go.Proofs.YtfnphepiopncbaaDoor.Pick
open Go.RowKit Go.Proofs.YtfnphepiopncbaaDoorW.PrintWords Go.Proofs.YtfnphepiopncbaaDoor.Srt
open Go.Proofs.YtfnphepiopncbaaDoor.PPickSound (S45 z45 k45 k45_mk)
open Go.Proofs.YtfnphepiopncbaaDoor.Heads (kI seqOf kv)
set_option linter.unusedVariables false
set_option linter.unusedSimpArgs false

set_option maxHeartbeats 4000000 in
set_option maxRecDepth 100000 in
theorem sound_walk (T K P N S : Int) (A : Option Addr) (c : Nat) (l : List Int) (A2 : Option Addr) (c2 : Nat) (sn : List Int) (pos : Int) (A3 : Option Addr) (c3 : Nat) (al : List Bool) (w : World) (hA : kI.C w A l.length l) (hB : kI.C w A2 sn.length sn) (hD : Kd.bool.C w A3 al.length al) (hc3 : al.length ≤ c3) (hF : Fits w l sn al) :
    Calls Tryd.prog 6 #[.agg #[.int .i64 T, .int .i64 K, .int .i64 P, .int .i64 N, .int .u64 S], .slice A l.length c, .slice A2 sn.length c2, .int .i64 pos, .slice A3 al.length c3] w (Yes w) := by
  have HWK : Aside0 (∀ W, Below w.heap.size w W → Calls Tryd.prog 12 #[] W (fun e w' => e = .returned (.bool true) ∧ Below W.heap.size W w')) := ⟨fun W hb => works_calls W (hF.laid.move hb)⟩
  have hC1 : ∀ W, Below w.heap.size w W → Calls Tryd.prog 16 #[.agg #[.int .i64 T, .int .i64 K, .int .i64 P, .int .i64 N, .int .u64 S], .slice A l.length c, .slice A2 sn.length c2, .slice A3 al.length c3] W (Gives W (chancesR ⟨T, K, P, N, S⟩ l sn al) (errR ⟨T, K, P, N, S⟩)) := fun W hb => gives_calls T K P N S A c l A2 c2 sn A3 c3 al W (Kd.C_below hA hb) (Kd.C_below hB hb) (Kd.C_below hD hb) (hF.move hb)
  have hC2 : ∀ W, Below w.heap.size w W → Calls Tryd.prog 22 #[.agg #[.int .i64 T, .int .i64 K, .int .i64 P, .int .i64 N, .int .u64 S], .slice A l.length c, .slice A2 sn.length c2, .int .i64 pos, .slice A3 al.length c3] W (fun e w' => e = .returned (.tuple #[.int .i64 (chosen ⟨T, K, P, N, S⟩ l sn pos al), .int .i64 (errR ⟨T, K, P, N, S⟩)]) ∧ Below W.heap.size W w') := fun W hb => choose_calls ⟨T, K, P, N, S⟩ A c l A2 c2 sn pos A3 c3 al W (Kd.C_below hA hb) (Kd.C_below hB hb) (Kd.C_below hD hb) (hF.move hb)
  have her := errR_cases ⟨T, K, P, N, S⟩ l sn al
  have hXl := chancesR_len ⟨T, K, P, N, S⟩ l sn al
  have hso := fun hp => chancesR_sound ⟨T, K, P, N, S⟩ hp l sn pos al
  have hnil : chancesR ⟨T, K, P, N, S⟩ l sn al = [] → chosen ⟨T, K, P, N, S⟩ l sn pos al = 0 := fun h => by unfold chosen; rw [h]; rfl
  have hnb : l.length ≤ 1048576 := hF.ll
  obtain ⟨X, hX⟩ : ∃ X, chancesR ⟨T, K, P, N, S⟩ l sn al = X := ⟨_, rfl⟩
  obtain ⟨er, he⟩ : ∃ er, errR ⟨T, K, P, N, S⟩ = er := ⟨_, rfl⟩
  obtain ⟨t, ht⟩ : ∃ t, chosen ⟨T, K, P, N, S⟩ l sn pos al = t := ⟨_, rfl⟩
  obtain ⟨n, hn⟩ : ∃ n, n = l.length := ⟨_, rfl⟩
  rw [hX] at hXl
  rw [hX, ht] at hnil
  rw [he, ht] at hC2
  rw [hX, he] at hC1 her
  simp only [hX, ht] at hso
  have hSC : 0 = er → ∀ W A9 c9, Chs W A9 X → X.length ≤ c9 → Below w.heap.size w W → Calls Tryd.prog 26 #[.slice A9 X.length c9, .int .i64 l.length, .slice A3 al.length c3] W (Says (.bool true) W) := fun h W A9 c9 h1 h2 hb => by
    rcases her with h3 | h3
    · exact sound_calls (hso h3.2).1 (by omega) A9 c9 A3 c3 W h1 h2 (Kd.C_below hD hb) hc3
    · omega
  have hAN : ∀ W, Below w.heap.size w W → Calls Tryd.prog 27 #[.int .i64 l.length, .slice A3 al.length c3] W (Says (.bool (anyb l.length al)) W) := fun W hb => some_calls l.length al hnb A3 c3 W (Kd.C_below hD hb) hc3
  obtain ⟨xl, hxl⟩ : ∃ xl, xl = X.length := ⟨_, rfl⟩
  have x1 : (er = 0 ∧ (K = 0 ∨ (xl : Int) ≤ K) ∧ (anyb l.length al = false ↔ xl = 0) ∧ (0 < xl → ∃ i, i < xl ∧ (X.getD i z45).f0 = t) ∧ (xl = 0 → t = 0)) ∨ (er = 100 ∧ xl = 0 ∧ t = 0) := by
    have hx0 : xl = 0 ↔ X = [] := by
      rw [hxl]
      exact ⟨fun h => List.eq_nil_of_length_eq_zero h, fun h => by rw [h]; rfl⟩
    rcases her with h | h
    · have h2 := hso h.2
      refine .inl ⟨h.1, ?_, ?_, ?_, ?_⟩
      · have := h2.2.2.1
        rw [hxl]
        exact this
      · rw [anyb_none, hx0]
        exact h2.2.1.symm
      · rw [hxl]; exact h2.2.2.2
      · exact fun h3 => hnil (hx0.1 h3)
    · exact .inr ⟨h.1, hx0.2 h.2, hnil h.2⟩
  unfold Gives at hC1
  rw [← hxl] at hC1 hSC
  rw [← hn] at hC1 hC2 hSC hAN x1 ⊢
  obtain ⟨av, hav⟩ : ∃ av, anyb n al = av := ⟨_, rfl⟩
  rw [hav] at hAN x1
  have hxb : xl ≤ 1048576 := by omega
  have HC1 := Aside0.mk hC1
  have HC2 := Aside0.mk hC2
  have HSC := Aside0.mk hSC
  have HAN := Aside0.mk hAN
  have HXL := Aside0.mk hxl
  obtain ⟨bx, hbx⟩ : ∃ bx, bx = w.heap.size := ⟨_, rfl⟩
  clear hA hB hD hF her hXl hso hnil hX he ht hC1 hC2 hSC hAN hxl hn hav hc3 hnb
  go_enter Tryd.func6, Tryd.ntmps6
  go_upto_region 1 with fail
  rw [← hbx]
  refine name_world (X := fun w1 => Code.wp _ _ _ _ w1) fun w1 hw1 => ?_
  have hp1 : PBlk w1 bx T K P N S := by rw [hw1, hbx]; exact PBlk.new w T K P N S
  have hb1 : Below w.heap.size w w1 := by rw [hw1]; exact below_alloc (Below.refl _ _) _
  have HP1 := Aside0.mk hp1
  have HB1 := Aside0.mk hb1
  clear hw1 hp1 hb1 hbx
  go_upto_region 2 with (first | (go_at_call 12; (with_reducible refine Calls.mono (HWK.out _ HB1.out) ?_); rintro e w2 ⟨rfl, hb2⟩) | fail)
  have HP2 := Aside0.mk (HP1.out.move hb2)
  have HB2 := Aside0.mk (below_then HB1.out HB1.out.size hb2)
  clear hb2 HWK HP1 HB1
  have y0 := HP2.out.box.c0
  have y1 := HP2.out.box.c1
  have y2 := HP2.out.box.c2
  have y3 := HP2.out.box.c3
  have y4 := HP2.out.box.c4
  go_upto_region 3 with (first | (go_at_call 16; (with_reducible refine Calls.mono (HC1.out _ HB2.out) ?_); rintro e w3 ⟨A9, c9, rfl, hc9, h9, hb9⟩) | fail)
  have HB3 := Aside0.mk (below_then HB2.out HB2.out.size hb9)
  have HP3 := Aside0.mk (HP2.out.move hb9)
  have H9 := Aside0.mk h9
  have HC9 := Aside0.mk hc9
  clear h9 hb9 hc9 y0 y1 y2 y3 y4 HP2 HB2
  have y0 := HP3.out.box.c0
  have y1 := HP3.out.box.c1
  have y2 := HP3.out.box.c2
  have y3 := HP3.out.box.c3
  have y4 := HP3.out.box.c4
  go_upto_region 4 with (first | (go_at_call 22; (with_reducible refine Calls.mono (HC2.out _ HB3.out) ?_); rintro e w4 ⟨rfl, hb4⟩) | fail)
  have HB4 := Aside0.mk (below_then HB3.out HB3.out.size hb4)
  have HP4 := Aside0.mk (HP3.out.move hb4)
  have H9b := Aside0.mk (H9.out.below hb4)
  clear hb4 y0 y1 y2 y3 y4 HP3 HB3 HC1 HC2 H9
  rcases x1 with ⟨rfl, hK, hav, hin, ht0⟩ | ⟨rfl, rfl, rfl⟩
  · have HSC2 := Aside0.mk (fun W A9 c9 => HSC.out (by first | rfl | (simp; done)) W A9 c9)
    clear HSC
    have hin0 : ∃ b0 : Bool, (xl = 0 → t = 0) ∧ ((((xl : Int) == 0) = true ∧ t = 0 ∧ b0 = true) ∨ (((xl : Int) == 0) = false ∧ b0 = false)) := by
      rcases Nat.eq_zero_or_pos xl with h | h
      · exact ⟨true, ht0, .inl ⟨by rw [h]; rfl, ht0 h, rfl⟩⟩
      · exact ⟨false, ht0, .inr ⟨by simp; omega, rfl⟩⟩
    have HINN := Aside0.mk hin
    have HAV := Aside0.mk hav
    have HK := Aside0.mk hK
    have HT0 := Aside0.mk ht0
    clear hin hav hK ht0 hin0
    have hsplit : (xl = 0 ∧ t = 0) ∨ ((xl : Int) == 0) = false := by
      rcases Nat.eq_zero_or_pos xl with h | h
      · exact .inl ⟨h, HT0.out h⟩
      · exact .inr (by simp; omega)
    have hstart : (xl = 0 ∧ t = 0 ∧ av = false) ∨ (((xl : Int) == 0) = false ∧ 0 < xl ∧ av = true) := by
      rcases hsplit with h | h
      · exact .inl ⟨h.1, h.2, HAV.out.2 h.1⟩
      · have h0 : 0 < xl := by simp at h; omega
        refine .inr ⟨h, h0, ?_⟩
        rcases ha : av with _ | _
        · have := HAV.out.1 ha; omega
        · rfl
    clear hsplit
    rcases hstart with ⟨hx0, ht0, hav⟩ | ⟨hx0, hxp, hav⟩
    · subst hx0
      subst ht0
      subst hav
      have y1 := HP4.out.box.c1
      have hs := fun q q2 => HSC2.out ((w4.drewN q).drewN q2) A9 c9 (H9b.out.below (pw_below_drewN (pw_below_drewN (Below.refl _ _) q) q2)) HC9.out (pw_below_drewN (pw_below_drewN HB4.out q) q2)
      have HSS : Aside0 (∀ q, Calls Tryd.prog 26 #[.slice A9 0 c9, .int .i64 n, .slice A3 al.length c3] (w4.drewN q) (Says (.bool true) (w4.drewN q))) := ⟨fun q => HSC2.out (w4.drewN q) A9 c9 (H9b.out.below (pw_below_drewN (Below.refl _ _) q)) HC9.out (pw_below_drewN HB4.out q)⟩
      have HS0 : Aside0 (Calls Tryd.prog 26 #[.slice A9 0 c9, .int .i64 n, .slice A3 al.length c3] w4 (Says (.bool true) w4)) := ⟨HSC2.out w4 A9 c9 H9b.out HC9.out HB4.out⟩
      have HAA : Aside0 (∀ q, Calls Tryd.prog 27 #[.int .i64 n, .slice A3 al.length c3] (w4.drewN q) (Says (.bool false) (w4.drewN q))) := ⟨fun q => HAN.out (w4.drewN q) (pw_below_drewN HB4.out q)⟩
      clear hs
      go_wp2_with fail
      go_loopg [16, 17] 0 (fun gk v16 v17 wr => v17 = .int .i64 0 ∧ v16 = .bool true ∧ Aside0 (wr = w4))
      case atStart => exact ⟨rfl, rfl, ⟨rfl⟩⟩
      case round =>
        obtain ⟨rfl, rfl, HE⟩ := hrel
        obtain rfl := HE.out
        rcases Decidable.em (K = 0) with hk0 | hk0
        · subst hk0
          go_wp2_with (first | (go_at_call 26; (with_reducible refine Calls.mono HS0.out ?_); rintro e w9 ⟨rfl, q9, rfl⟩) | (go_at_call 27; (with_reducible refine Calls.mono (HAA.out _) ?_); rintro e w10 ⟨rfl, q10, rfl⟩) | fail)
          go_ret
          exact ⟨rfl, pw_below_drewN HB4.out _⟩
        · have hk1 : (K == 0) = false := by simpa using hk0
          have hk2 : (0 : Int) ≤ K := by
            rcases HK.out with h | h
            · exact absurd h hk0
            · exact h
          go_wp2_with (first | (go_at_call 26; (with_reducible refine Calls.mono HS0.out ?_); rintro e w9 ⟨rfl, q9, rfl⟩) | (go_at_call 27; (with_reducible refine Calls.mono (HAA.out _) ?_); rintro e w10 ⟨rfl, q10, rfl⟩) | fail)
          go_ret
          exact ⟨rfl, pw_below_drewN HB4.out _⟩
    · subst hav
      go_wp2_with fail
      go_loopg [16, 17] xl (fun gk v16 v17 wr => ∃ (i : Nat) (b : Bool), v17 = .int .i64 i ∧ v16 = .bool b ∧ i ≤ xl ∧ xl ≤ i + gk ∧ Aside0 (b = true ↔ ∃ j, j < i ∧ (X.getD j z45).f0 = t) ∧ Aside0 (Below w4.heap.size w4 wr))
      case atStart => exact ⟨0, false, rfl, rfl, by omega, by omega, ⟨by simp⟩, ⟨Below.refl _ _⟩⟩
      case round =>
        obtain ⟨i, b, rfl, rfl, hi, hg, HI, HBr⟩ := hrel
        by_cases hlt : i < xl
        · obtain ⟨g, rfl, hc0, hc1, _⟩ := (H9b.out.below HBr.out) i (by rw [← HXL.out]; exact hlt)
          obtain ⟨f0, hf0⟩ : ∃ f0, (X.getD i z45).f0 = f0 := ⟨_, rfl⟩
          rw [hf0] at hc0
          have HF0 := Aside0.mk hf0
          clear hc1 hf0
          rcases b with _ | _
          · by_cases hft : f0 = t
            · subst hft
              go_wp2_with fail
              go_roundg (xl - (i + 1))
              case measure => omega
              case rel => exact ⟨i + 1, true, by first | rfl | (simp; done), rfl, by omega, by omega, ⟨Iff.intro (fun _ => ⟨i, by omega, HF0.out⟩) (fun _ => rfl)⟩, HBr⟩
            · have hft2 : (f0 == t) = false := by simpa using hft
              go_wp2_with fail
              go_roundg (xl - (i + 1))
              case measure => omega
              case rel =>
                have hno : ¬ ∃ j, j < i + 1 ∧ (X.getD j z45).f0 = t := by
                  rintro ⟨j, hj, e⟩
                  rcases Nat.lt_or_ge j i with h | h
                  · have := HI.out
                    simp only [Bool.false_eq_true, false_iff] at this
                    exact this ⟨j, h, e⟩
                  · obtain rfl : j = i := by omega
                    exact absurd (HF0.out.symm.trans e) hft
                exact ⟨i + 1, false, by first | rfl | (simp; done), rfl, by omega, by omega, ⟨Iff.intro (fun h => by simp at h) (fun h => absurd h hno)⟩, HBr⟩
          · go_wp2_with fail
            go_roundg (xl - (i + 1))
            case measure => omega
            case rel =>
              refine ⟨i + 1, true, by first | rfl | (simp; done), rfl, by omega, by omega, ⟨Iff.intro (fun _ => ?_) (fun _ => rfl)⟩, HBr⟩
              obtain ⟨j, hj, e⟩ := HI.out.1 (by first | rfl | (simp; done))
              exact ⟨j, by omega, e⟩
        · obtain rfl : i = xl := by omega
          obtain rfl := HI.out.2 (HINN.out hxp)
          have HBR := Aside0.mk (below_then HB4.out HB4.out.size HBr.out)
          have HS0 : Aside0 (Calls Tryd.prog 26 #[.slice A9 i c9, .int .i64 n, .slice A3 al.length c3] wr (Says (.bool true) wr)) := ⟨HSC2.out wr A9 c9 (H9b.out.below HBr.out) HC9.out HBR.out⟩
          have HAA : Aside0 (∀ q, Calls Tryd.prog 27 #[.int .i64 n, .slice A3 al.length c3] (wr.drewN q) (Says (.bool true) (wr.drewN q))) := ⟨fun q => HAN.out (wr.drewN q) (pw_below_drewN HBR.out q)⟩
          have y1 := pw_cell_below HBr.out HP4.out.box.c1
          have hgt : decide ((0 : Int) < (i : Int)) = true := by simp; omega
          have hgt2 : (0 : Int) < (i : Int) := by omega
          rcases Decidable.em (K = 0) with hk0 | hk0
          · subst hk0
            go_wp2_with (first | (go_at_call 26; (with_reducible refine Calls.mono HS0.out ?_); rintro e w9 ⟨rfl, q9, rfl⟩) | (go_at_call 27; (with_reducible refine Calls.mono (HAA.out _) ?_); rintro e w10 ⟨rfl, q10, rfl⟩) | fail)
            go_ret
            exact ⟨rfl, pw_below_drewN HBR.out _⟩
          · have hk1 : (K == 0) = false := by simpa using hk0
            have hk2 : (i : Int) ≤ K := by
              rcases HK.out with h | h
              · exact absurd h hk0
              · exact h
            go_wp2_with (first | (go_at_call 26; (with_reducible refine Calls.mono HS0.out ?_); rintro e w9 ⟨rfl, q9, rfl⟩) | (go_at_call 27; (with_reducible refine Calls.mono (HAA.out _) ?_); rintro e w10 ⟨rfl, q10, rfl⟩) | fail)
            go_ret
            exact ⟨rfl, pw_below_drewN HBR.out _⟩
  · go_wp2_with fail
    go_ret
    exact ⟨rfl, HB4.out⟩
#print axioms sound_walk
end Go.Proofs.YtfnphepiopncbaaDoor.Pick
