/- The document's answer of Chances, said plainly. Conditions: how long the lists are. -/
import Derived.Test.YtfnphepiopncbaaDoorPkD
namespace Go.Proofs.YtfnphepiopncbaaDoor.Pick
open Go.RowKit Go.Proofs.YtfnphepiopncbaaDoorW.PrintWords Go.Proofs.YtfnphepiopncbaaDoor.Srt
open Go.Proofs.YtfnphepiopncbaaDoor.PPickChooses (S45 z45 k45 k45_mk rd_T45)
open Go.Proofs.YtfnphepiopncbaaDoor.PPickChooses hiding S45 z45 k45 k45_mk rd_T45
open Go.Proofs.YtfnphepiopncbaaDoor.Heads (kI seqOf kv)
set_option linter.unusedVariables false
set_option linter.unusedSimpArgs false

theorem rd_nat (X : List S45) (i : Nat) : rd_T45 X (i : Int) = X.getD i z45 := rfl
theorem take_nextS {l : List S45} {i : Nat} (h : i < l.length) : l.take (i + 1) = l.take i ++ [l.getD i z45] := by
  rw [List.take_add_one, List.getElem?_eq_getElem h, List.getD_eq_getElem?_getD, List.getElem?_eq_getElem h]
  rfl
theorem tot_app (a b : List S45) : tot (a ++ b) = tot a + tot b := by
  unfold tot
  rw [List.map_append, List.sum_append]
theorem tot_one (x : S45) : tot [x] = x.f1 := by
  unfold tot
  simp
theorem tot_next {xs : List S45} {i : Nat} (h : i < xs.length) : tot (xs.take (i + 1)) = tot (xs.take i) + (xs.getD i z45).f1 := by rw [take_nextS h, tot_app, tot_one]
theorem tot_part {xs : List S45} (hw : Wts xs) (i : Nat) : 0 ≤ tot (xs.take i) ∧ tot (xs.take i) ≤ 65536 * xs.length := by
  have h := tot_range (xs := xs.take i) (fun x hx => hw x (List.mem_of_mem_take hx))
  rw [List.length_take] at h
  omega
theorem inc {i : Nat} (h : i ≤ 1048576) : wrap64 ((i : Int) + 1) = ((i + 1 : Nat) : Int) := by rw [w64 (by omega)]; omega
theorem thin_l1 {l : List S45} {P : Int} (hP : 1 ≤ P ∧ P ≤ 1000) (hw : Wts l) (hl : l.length ≤ 1048576) : ∀ m i : Nat, i + m = l.length → ∀ k, m + 1 ≤ k → augurref10_thin.l1 k l P (tot l) (l.take i) (tot (l.take i)) (i : Int) = some (l.take (i + cutN (tot l * P) (tot (l.take i)) (l.drop i))) := by
  have ht := tot_range hw
  have hm : 0 ≤ P * tot l ∧ P * tot l ≤ 1000 * tot l := ⟨Int.mul_nonneg (by omega) ht.1, Int.mul_le_mul_of_nonneg_right hP.2 ht.1⟩
  have hcm : P * tot l = tot l * P := Int.mul_comm _ _
  intro m
  induction m with
  | zero =>
    intro i hi k hk
    obtain ⟨k, rfl⟩ : ∃ k', k = k' + 1 := ⟨k - 1, by omega⟩
    simp only [augurref10_thin.l1]
    rw [if_neg (by omega), List.drop_of_length_le (by omega)]
    rfl
  | succ m ih =>
    intro i hi k hk
    obtain ⟨k, rfl⟩ : ∃ k', k = k' + 1 := ⟨k - 1, by omega⟩
    have hp := tot_part hw i
    have hp1 := tot_part hw (i + 1)
    have hn := tot_next (xs := l) (i := i) (by omega)
    simp only [augurref10_thin.l1]
    rw [if_pos (by omega), w64 (x := tot (l.take i) * 1000) (by omega), w64 (x := P * tot l) (by omega), hcm, drop_cons (show i < l.length by omega)]
    unfold cutN
    by_cases h : tot (l.take i) * 1000 < tot l * P
    · rw [if_pos h, if_pos h, if_pos (by omega), if_pos (by rw [List.length_take]; omega), rd_nat, w64 (x := tot (l.take i) + (l.getD i z45).f1) (by omega), ← hn, inc (by omega)]
      have e : l.take i ++ [(⟨(l.getD i z45).f0, (l.getD i z45).f1⟩ : S45)] = l.take (i + 1) := (take_nextS (by omega)).symm
      rw [e, ih (i + 1) (by omega) k (by omega)]
      congr 2
      omega
    · rw [if_neg h, if_neg h]
      rfl
theorem thin_l0 {l : List S45} {P : Int} (hP : 1 ≤ P ∧ P ≤ 1000) (hw : Wts l) (hl : l.length ≤ 1048576) : ∀ m i : Nat, i + m = l.length → ∀ k, m + l.length + 2 ≤ k → augurref10_thin.l0 k l P (tot (l.take i)) (i : Int) = some (l.take (thinN P l)) := by
  intro m
  induction m with
  | zero =>
    intro i hi k hk
    obtain ⟨k, rfl⟩ : ∃ k', k = k' + 1 := ⟨k - 1, by omega⟩
    simp only [augurref10_thin.l0]
    rw [if_neg (by omega), show i = l.length by omega, List.take_length]
    have := thin_l1 hP hw hl l.length 0 (by omega) k (by omega)
    rw [List.drop_zero, Nat.zero_add] at this
    exact this
  | succ m ih =>
    intro i hi k hk
    obtain ⟨k, rfl⟩ : ∃ k', k = k' + 1 := ⟨k - 1, by omega⟩
    have hp1 := tot_part hw (i + 1)
    have hn := tot_next (xs := l) (i := i) (by omega)
    simp only [augurref10_thin.l0]
    rw [if_pos (by omega), if_pos (by omega), rd_nat, w64 (x := tot (l.take i) + (l.getD i z45).f1) (by omega), ← hn, inc (by omega)]
    exact ih (i + 1) (by omega) k (by omega)
theorem thin_f {l : List S45} {P : Int} (hP : 1 ≤ P ∧ P ≤ 1000) (hw : Wts l) (hl : l.length ≤ 1048576) (k : Nat) (hk : 2 * l.length + 2 ≤ k) : augurref10_thin.f k l P = some (l.take (thinN P l)) := thin_l0 hP hw hl l.length 0 (by omega) k (by omega)
/-! ### Chances -/
section
variable {T K P N S : Int} {sc : List Int} {al : List Bool}
def upto (sc : List Int) (al : List Bool) (i : Nat) : List S45 := sel al ((seqOf sc).take i)
theorem upto_next {i : Nat} {z : Int} (h : i < sc.length) (hz : (ordl (kv sc) sc.length).getD i 0 = z) : upto sc al (i + 1) = upto sc al i ++ (if mayb al z.toNat then [⟨z, kv sc z⟩] else []) := by
  unfold upto
  rw [Heads.seq_step h hz, sel_append]
theorem upto_full : upto sc al sc.length = firsts sc al := by
  unfold upto firsts
  rw [List.take_of_length_le (by rw [Heads.seq_len]; exact Nat.le_refl _)]
theorem upto_pre {i : Nat} : ∃ r, firsts sc al = upto sc al i ++ r := by
  refine ⟨sel al ((seqOf sc).drop i), ?_⟩
  unfold firsts upto sel
  rw [← List.map_append, ← List.filter_append, List.take_append_drop]
theorem upto_len (i : Nat) : (upto sc al i).length ≤ sc.length := by
  unfold upto
  have h := sel_len al ((seqOf sc).take i)
  rw [List.length_take, Heads.seq_len] at h
  omega
theorem order_at {i : Nat} (h : i < sc.length) : ∃ z : Nat, z < sc.length ∧ (ordl (kv sc) sc.length).getD i 0 = (z : Int) := by
  have hl := Heads.ordl_len (kv sc) sc.length
  have hm : (ordl (kv sc) sc.length).getD i 0 ∈ ordl (kv sc) sc.length := by
    rw [List.getD_eq_getElem?_getD, List.getElem?_eq_getElem (by omega)]
    exact List.getElem_mem _
  have h2 := (ordl_perm _ _).mem_iff.1 hm
  rw [nos_mem] at h2
  exact ⟨((ordl (kv sc) sc.length).getD i 0).toNat, by omega, by omega⟩
theorem Chances_zero (hp : Par.ok ⟨0, K, P, N, S⟩) (hl : sc.length ≤ 1048576) : ∀ m i : Nat, i + m = sc.length → upto sc al i = [] → ∀ (b : Int) (k : Nat), 3 * m + 10 ≤ k → augurref10_Chances.l1 k al sc (ordl (kv sc) sc.length) [] b (i : Int) 0 K P N S = some (later ⟨0, K, P, N, S⟩ (firsts sc al), 0) := by
  have hol := Heads.ordl_len (kv sc) sc.length
  have hlat : ∀ l0 : List S45, later ⟨0, K, P, N, S⟩ l0 = (l0.take 1).map oneW := fun l0 => rfl
  intro m
  induction m with
  | zero =>
    intro i hi hu b k hk
    obtain ⟨k, rfl⟩ : ∃ k', k = k' + 1 := ⟨k - 1, by omega⟩
    simp only [augurref10_Chances.l1]
    rw [if_neg (by omega), bind_some' (thin_f (l := []) (P := P) hp.2.2.1 (fun x hx => by simp at hx) (by simp) k (by simp; omega)), hlat, ← upto_full, show sc.length = i by omega, hu]
    rfl
  | succ m ih =>
    intro i hi hu b k hk
    obtain ⟨k, rfl⟩ : ∃ k', k = k' + 1 := ⟨k - 1, by omega⟩
    obtain ⟨k, rfl⟩ : ∃ k', k = k' + 1 := ⟨k - 1, by omega⟩
    obtain ⟨k, rfl⟩ : ∃ k', k = k' + 1 := ⟨k - 1, by omega⟩
    obtain ⟨z, hz, ho⟩ := order_at (sc := sc) (i := i) (by omega)
    have hrd : rd (ordl (kv sc) sc.length) (i : Int) = (z : Int) := ho
    have hn := upto_next (al := al) (show i < sc.length by omega) ho
    rw [hu, List.nil_append, Int.toNat_natCast] at hn
    rw [augurref10_Chances.l1, if_pos (by omega), if_pos (by omega), hrd, bind_some' (Allowed_f al (z : Int) (by omega)), Int.toNat_natCast]
    rcases hm : mayb al z with _ | _
    · rw [hm, if_neg (by decide)] at hn
      rw [if_neg (by decide), augurref10_Chances.j2, if_pos rfl, inc (by omega)]
      exact ih (i + 1) (by omega) hn b (k + 1) (by omega)
    · rw [hm, if_pos rfl] at hn
      have hj3 : ∀ b', augurref10_Chances.j3 (k + 1) al sc (ordl (kv sc) sc.length) [] b' (i : Int) 0 K P N S = some (later ⟨0, K, P, N, S⟩ (firsts sc al), 0) := fun b' => by
        rw [augurref10_Chances.j3, if_pos rfl, if_pos (by omega), if_pos (by omega), hrd, hlat]
        obtain ⟨r, hr⟩ := upto_pre (sc := sc) (al := al) (i := i + 1)
        rw [hr, hn]
        rfl
      have hj2 : augurref10_Chances.j2 (k + 2) al sc (ordl (kv sc) sc.length) [] b (i : Int) false 0 K P N S = some (later ⟨0, K, P, N, S⟩ (firsts sc al), 0) := by
        rw [augurref10_Chances.j2, if_neg (by decide), if_pos (show ((([] : List S45).length : Nat) : Int) = 0 from rfl), if_pos (by omega), if_pos (by omega), hrd, if_pos (by omega), if_pos (by omega)]
        exact hj3 _
      rw [if_pos rfl]
      by_cases hK : K > 0
      · have e : (((([] : List S45).length : Nat) : Int) == K) = false := by simp; omega
        rw [if_pos hK, e]
        exact hj2
      · rw [if_neg hK]
        exact hj2
theorem cut2_app {K : Int} {s : List S45} {x : S45} (h : ¬ (0 < K ∧ ((cut2 K s).length : Int) = K)) : cut2 K (s ++ [x]) = cut2 K s ++ [x] := by
  unfold cut2 at *
  by_cases hK : 0 < K
  · rw [if_pos hK] at h
    rw [if_pos hK, if_pos hK]
    rw [List.length_take] at h
    rw [List.take_append, List.take_of_length_le (l := [x]) (by simp; omega)]
  · rw [if_neg hK, if_neg hK]
theorem cut2_stop {K : Int} {s : List S45} {x : S45} (h : 0 < K ∧ ((cut2 K s).length : Int) = K) : cut2 K (s ++ [x]) = cut2 K s := by
  unfold cut2 at *
  rw [if_pos h.1] at h
  rw [if_pos h.1, if_pos h.1]
  rw [List.length_take] at h
  rw [List.take_append_of_le_length (by omega)]
theorem wts2_app (T : Int) (s : List S45) (x : S45) : wts2 T (s ++ [x]) = wts2 T s ++ [wtf T (if s.length = 0 then x.f1 else (s.getD 0 z45).f1) x] := by
  unfold wts2
  cases s with
  | nil => rfl
  | cons y ys => rw [if_neg (by simp), List.map_append]; rfl
theorem cut2_nil {K : Int} {s : List S45} (h0 : 0 ≤ K) : (cut2 K s).length = 0 ↔ s.length = 0 := by
  unfold cut2
  split
  · rw [List.length_take]; omega
  · exact Iff.rfl
theorem cut2_head {K : Int} {s : List S45} (h0 : 0 ≤ K) : (cut2 K s).getD 0 z45 = s.getD 0 z45 := by
  unfold cut2
  split
  · rw [List.getD_eq_getElem?_getD, List.getElem?_take, if_pos (by omega), ← List.getD_eq_getElem?_getD]
  · rfl
theorem head_app {s : List S45} {r : List S45} (h : s.length ≠ 0) : (s ++ r).getD 0 z45 = s.getD 0 z45 := by
  cases s with
  | nil => simp at h
  | cons y ys => rfl
theorem Chances_pos (hT : 0 < T) (hp : Par.ok ⟨T, K, P, N, S⟩) (hl : sc.length ≤ 1048576) (hsc : ∀ z : Nat, z < sc.length → -67108864 ≤ kv sc (z : Int) ∧ kv sc (z : Int) ≤ 67108864) : ∀ m i : Nat, i + m = sc.length → ∀ (b : Int) (k : Nat), ((upto sc al i).length ≠ 0 → b = ((upto sc al i).getD 0 z45).f1 ∧ -67108864 ≤ b ∧ b ≤ 67108864) → 3 * m + 2 * sc.length + 100 ≤ k → augurref10_Chances.l1 k al sc (ordl (kv sc) sc.length) (wts2 T (cut2 K (upto sc al i))) b (i : Int) T K P N S = some (later ⟨T, K, P, N, S⟩ (firsts sc al), 0) := by
  have hol := Heads.ordl_len (kv sc) sc.length
  have hlat : ∀ l0 : List S45, later ⟨T, K, P, N, S⟩ l0 = (wts2 T (cut2 K l0)).take (thinN P (wts2 T (cut2 K l0))) := fun l0 => by
    unfold later
    rw [if_pos hT]
    rfl
  have hT2 : T ≤ 4096 := hp.1.2
  have hK0 : 0 ≤ K := hp.2.1.1
  intro m
  induction m with
  | zero =>
    intro i hi b k hb hk
    obtain ⟨k, rfl⟩ : ∃ k', k = k' + 1 := ⟨k - 1, by omega⟩
    have hlen : (wts2 T (cut2 K (upto sc al i))).length ≤ sc.length := by
      have h1 := cut2_len K (upto sc al i)
      have h2 := upto_len (sc := sc) (al := al) i
      unfold wts2
      rw [List.length_map]
      omega
    have hww : Wts (wts2 T (cut2 K (upto sc al i))) := wtf_wts _ _ _
    simp only [augurref10_Chances.l1]
    rw [if_neg (by omega), bind_some' (thin_f (P := P) hp.2.2.1 hww (by omega) k (by omega)), hlat, ← upto_full, show sc.length = i by omega]
  | succ m ih =>
    intro i hi b k hb hk
    obtain ⟨k, rfl⟩ : ∃ k', k = k' + 1 := ⟨k - 1, by omega⟩
    obtain ⟨k, rfl⟩ : ∃ k', k = k' + 1 := ⟨k - 1, by omega⟩
    obtain ⟨k, rfl⟩ : ∃ k', k = k' + 1 := ⟨k - 1, by omega⟩
    obtain ⟨z, hz, ho⟩ := order_at (sc := sc) (i := i) (by omega)
    have hrd : rd (ordl (kv sc) sc.length) (i : Int) = (z : Int) := ho
    have hrs : rd sc (z : Int) = kv sc (z : Int) := rfl
    have hv := hsc z hz
    have hn := upto_next (al := al) (show i < sc.length by omega) ho
    rw [Int.toNat_natCast] at hn
    have hul := upto_len (sc := sc) (al := al) i
    rw [augurref10_Chances.l1, if_pos (by omega), if_pos (by omega), hrd, bind_some' (Allowed_f al (z : Int) (by omega)), Int.toNat_natCast]
    rcases hm : mayb al z with _ | _
    · rw [hm, if_neg (by decide), List.append_nil] at hn
      rw [if_neg (by decide), augurref10_Chances.j2, if_pos rfl, inc (by omega)]
      have := ih (i + 1) (by omega) b (k + 1) (by rw [hn]; exact hb) (by omega)
      rw [hn] at this
      exact this
    · rw [hm, if_pos rfl] at hn
      rw [if_pos rfl]
      obtain ⟨s, hs⟩ : ∃ s, upto sc al i = s := ⟨_, rfl⟩
      rw [hs] at hn hb hul ⊢
      obtain ⟨v, hvv⟩ : ∃ v, kv sc (z : Int) = v := ⟨_, rfl⟩
      rw [hvv] at hn hv hrs
      have hwl : (wts2 T (cut2 K s)).length = (cut2 K s).length := by unfold wts2; rw [List.length_map]
      have hcl := cut2_len K s
      by_cases hfull : 0 < K ∧ ((cut2 K s).length : Int) = K
      · have e : (((wts2 T (cut2 K s)).length : Int) == K) = true := by rw [hwl, hfull.2]; simp
        have hs0 : s.length ≠ 0 := by omega
        rw [if_pos hfull.1, e, augurref10_Chances.j2, if_pos rfl, inc (by omega)]
        have := ih (i + 1) (by omega) b (k + 1) (by rw [hn, head_app hs0]; exact fun _ => hb hs0) (by omega)
        rw [hn, cut2_stop hfull] at this
        exact this
      · have hj3 : ∀ b', b' = (if s.length = 0 then v else (s.getD 0 z45).f1) → -67108864 ≤ b' ∧ b' ≤ 67108864 → augurref10_Chances.j3 (k + 1) al sc (ordl (kv sc) sc.length) (wts2 T (cut2 K s)) b' (i : Int) T K P N S = some (later ⟨T, K, P, N, S⟩ (firsts sc al), 0) := fun b' hb1 hb2 => by
          have hdiv : -1152921504606846976 ≤ (v - b') * 16384 / T ∧ (v - b') * 16384 / T ≤ 1152921504606846976 := by
            have h1 := mul_ediv_bounds (n := (v - b') * 16384) hT
            obtain ⟨q, hq⟩ : ∃ q, (v - b') * 16384 / T = q := ⟨_, rfl⟩
            rw [hq] at h1 ⊢
            constructor
            · rcases Int.lt_or_le q (-1152921504606846976) with h | h
              · have := Int.mul_le_mul_of_nonneg_left (show q ≤ -1152921504606846976 by omega) (Int.le_of_lt hT)
                have h2 : T * -1152921504606846976 ≤ 1 * -1152921504606846976 := by
                  have := Int.mul_le_mul_of_nonneg_right (show (1 : Int) ≤ T by omega) (show (0 : Int) ≤ 1152921504606846976 by decide)
                  omega
                omega
              · exact h
            · rcases Int.lt_or_le 1152921504606846976 q with h | h
              · have := Int.mul_le_mul_of_nonneg_left (show (1152921504606846976 : Int) ≤ q by omega) (Int.le_of_lt hT)
                have h2 : 1 * (1152921504606846976 : Int) ≤ T * 1152921504606846976 := Int.mul_le_mul_of_nonneg_right (show (1 : Int) ≤ T by omega) (by decide)
                omega
              · exact h
          rw [augurref10_Chances.j3, if_neg (by omega), if_pos (by omega), if_pos (by omega), hrd, if_pos (by omega), if_pos (by omega), hrs, w64 (x := v - b') (by omega), w64 (x := (v - b') * 16384) (by omega), bind_some' (Div_f (by omega) (by omega)), bind_some' (Exp_f _ hdiv k (by omega)), if_pos (by omega), inc (by omega)]
          have hx : wts2 T (cut2 K s) ++ [(⟨(z : Int), expf ((v - b') * 16384 / T)⟩ : S45)] = wts2 T (cut2 K (upto sc al (i + 1))) := by
            have h6 : (if (cut2 K s).length = 0 then v else ((cut2 K s).getD 0 z45).f1) = b' := by
              rw [hb1, cut2_head hK0]
              by_cases h0 : s.length = 0
              · rw [if_pos ((cut2_nil hK0).2 h0), if_pos h0]
              · rw [if_neg (fun h => h0 ((cut2_nil hK0).1 h)), if_neg h0]
            rw [hn, cut2_app hfull, wts2_app]
            show _ = wts2 T (cut2 K s) ++ [wtf T (if (cut2 K s).length = 0 then v else ((cut2 K s).getD 0 z45).f1) ⟨(z : Int), v⟩]
            rw [h6]
            rfl
          rw [hx]
          refine ih (i + 1) (by omega) b' k (fun _ => ?_) (by omega)
          rw [hn]
          refine ⟨?_, hb2⟩
          rw [hb1]
          by_cases h0 : s.length = 0
          · have : s = [] := List.eq_nil_of_length_eq_zero h0
            rw [if_pos h0, this]
            rfl
          · rw [if_neg h0, head_app h0]
        have hj2 : augurref10_Chances.j2 (k + 2) al sc (ordl (kv sc) sc.length) (wts2 T (cut2 K s)) b (i : Int) false T K P N S = some (later ⟨T, K, P, N, S⟩ (firsts sc al), 0) := by
          rw [augurref10_Chances.j2, if_neg (by decide), hwl]
          by_cases h0 : s.length = 0
          · rw [if_pos (by rw [(cut2_nil hK0).2 h0]; rfl), if_pos (by omega), if_pos (by omega), hrd, if_pos (by omega), if_pos (by omega), hrs]
            exact hj3 v (by rw [if_pos h0]) hv
          · have h7 : ¬ (((cut2 K s).length : Int) = 0) := fun h => h0 ((cut2_nil hK0).1 (by omega))
            rw [if_neg h7]
            exact hj3 b (by rw [if_neg h0]; exact (hb h0).1) (hb h0).2
        by_cases hK : K > 0
        · have e : (((wts2 T (cut2 K s)).length : Int) == K) = false := by rw [hwl]; simp; omega
          rw [if_pos hK, e]
          exact hj2
        · rw [if_neg hK]
          exact hj2
end
theorem kv_range {N : Int} (hN : 64 ≤ N ∧ N ≤ 1024) (sn l : List Int) (z : Nat) (hz : z < (scores N sn l).length) : -67108864 ≤ kv (scores N sn l) (z : Int) ∧ kv (scores N sn l) (z : Int) ≤ 67108864 := by
  rw [scores_len] at hz
  have e : kv (scores N sn l) (z : Int) = scoreAt N sn l z := scores_get hz
  rw [e]
  unfold scoreAt
  have hw := wide_range (l.getD z 0)
  split
  · exact seenf_range hN hw
  · omega
theorem Chances_l0 {T K P N S : Int} (hp : Par.ok ⟨T, K, P, N, S⟩) (l sn : List Int) (al : List Bool) (hl : l.length ≤ 1048576) (hs : sn.length ≤ 17592186044416) : ∀ m i : Nat, i + m = l.length → ∀ k, m + sn.length + 9 * l.length + 200 ≤ k → augurref10_Chances.l0 k l sn al ((List.range i).map (scoreAt N sn l)) (i : Int) T K P N S = some (chancesf ⟨T, K, P, N, S⟩ l sn al, 0) := by
  intro m
  induction m with
  | zero =>
    intro i hi k hk
    obtain ⟨k, rfl⟩ : ∃ k', k = k' + 1 := ⟨k - 1, by omega⟩
    simp only [augurref10_Chances.l0]
    have e : (List.range i).map (scoreAt N sn l) = scores N sn l := by unfold scores; rw [show i = l.length by omega]
    have hsl := scores_len N sn l
    rw [if_neg (by omega), e, bind_some' (Order_f (by omega) k (by omega))]
    have hr := kv_range hp.2.2.2 sn l
    unfold chancesf
    obtain ⟨sc, hsc⟩ : ∃ sc, scores N sn l = sc := ⟨_, rfl⟩
    rw [hsc] at hsl hr ⊢
    have hu : upto sc al 0 = [] := rfl
    rcases Int.lt_or_le 0 T with hT | hT
    · have := Chances_pos (al := al) hT hp (by omega) hr sc.length 0 (by omega) 0 k (by rw [hu]; simp) (by omega)
      rw [hu] at this
      have e2 : wts2 T (cut2 K []) = [] := by unfold cut2; split <;> simp [wts2]
      rw [e2] at this
      exact this
    · have hT0 : T = 0 := by have := hp.1.1; simp at this; omega
      subst hT0
      exact Chances_zero (al := al) hp (by omega) sc.length 0 (by omega) hu 0 k (by omega)
  | succ m ih =>
    intro i hi k hk
    obtain ⟨k, rfl⟩ : ∃ k', k = k' + 1 := ⟨k - 1, by omega⟩
    simp only [augurref10_Chances.l0]
    rw [if_pos (by omega), bind_some' (Score_f hp.2.2.2 l sn i (by omega) hl hs k (by omega)), if_pos (by rw [List.length_map, List.length_range]; omega), inc (by omega)]
    have e : (List.range i).map (scoreAt N sn l) ++ [scoreAt N sn l i] = (List.range (i + 1)).map (scoreAt N sn l) := by rw [List.range_succ, List.map_append]; rfl
    rw [e]
    exact ih (i + 1) (by omega) k (by omega)
theorem Check_f (T K P N S : Int) : augurref10_Check.f T K P N S = some (errR ⟨T, K, P, N, S⟩) := by
  unfold augurref10_Check.f errR
  by_cases hp : Par.ok ⟨T, K, P, N, S⟩
  · have h1 := hp.1
    have h2 := hp.2.1
    have h3 := hp.2.2.1
    have h4 := hp.2.2.2
    dsimp only at h1 h2 h3 h4
    rw [if_pos hp, if_neg (by omega), if_neg (by omega), if_neg (by omega), if_neg (by omega), if_neg (by omega), if_neg (by omega), if_neg (by omega), if_neg (by omega)]
  · rw [if_neg hp]
    have hno : ¬ ((0 ≤ T ∧ T ≤ 4096) ∧ (0 ≤ K ∧ K ≤ 64) ∧ (1 ≤ P ∧ P ≤ 1000) ∧ (64 ≤ N ∧ N ≤ 1024)) := hp
    repeat' split
    all_goals first | rfl | omega
/-- The document's Chances is the program's list and error. -/
theorem Chances_f (T K P N S : Int) (l sn : List Int) (al : List Bool) (hl : l.length ≤ 1048576) (hs : sn.length ≤ 17592186044416) (k : Nat) (hk : sn.length + 10 * l.length + 200 ≤ k) : augurref10_Chances.f k T K P N S l sn al = some (chancesR ⟨T, K, P, N, S⟩ l sn al, errR ⟨T, K, P, N, S⟩) := by
  unfold augurref10_Chances.f
  rw [bind_some' (Check_f T K P N S)]
  unfold chancesR errR
  by_cases hp : Par.ok ⟨T, K, P, N, S⟩
  · rw [if_pos hp, if_pos hp, if_pos rfl]
    exact Chances_l0 hp l sn al hl hs l.length 0 (by omega) k (by omega)
  · rw [if_neg hp, if_neg hp, if_neg (by decide)]
#print axioms Chances_f
end Go.Proofs.YtfnphepiopncbaaDoor.Pick
