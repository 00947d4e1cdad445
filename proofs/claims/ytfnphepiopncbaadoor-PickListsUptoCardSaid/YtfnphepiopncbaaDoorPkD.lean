/- The document's answer of Exp, Score, Order, Allowed, thin, said plainly. Conditions: how great the numbers are. -/
import Derived.Test.YtfnphepiopncbaaDoorPkC
namespace Go.Proofs.YtfnphepiopncbaaDoor.Pick
open Go.RowKit Go.Proofs.YtfnphepiopncbaaDoorW.PrintWords Go.Proofs.YtfnphepiopncbaaDoor.Srt
open Go.Proofs.YtfnphepiopncbaaDoor.PPickChooses (S45 z45 k45 k45_mk rd_T45)
open Go.Proofs.YtfnphepiopncbaaDoor.PPickChooses hiding S45 z45 k45 k45_mk rd_T45
open Go.Proofs.YtfnphepiopncbaaDoor.Heads (kI seqOf kv)
set_option linter.unusedVariables false
set_option linter.unusedSimpArgs false

/-! ### Exp -/
theorem bind_some' {α β : Type} {a : α} {f : α → Option β} {o : Option α} (h : o = some a) : o.bind f = f a := by rw [h]; rfl
theorem Exp_j {z : Int} (h0 : z ≤ 0) (k : Nat) (hk : 64 ≤ k) (hz : -1152921504606846976 ≤ z) : augurref01_Exp.j0 (k + 1) z = some (expf z) := by
  simp only [augurref01_Exp.j0]
  unfold expf
  by_cases hl : z < -1048576
  · rw [if_pos hl, if_pos hl]
  · rw [if_neg hl, if_neg hl, if_neg (show ¬ 0 < z by omega)]
    obtain ⟨y, hy⟩ : ∃ y : Nat, -z = (y : Int) := ⟨(-z).toNat, by omega⟩
    rw [hy, w64 (x := (y : Int)) (by omega), bind_some' (Div_f (a := (y : Int)) (b := 45426) (by omega) (by omega))]
    obtain ⟨d, hd⟩ : ∃ d : Nat, y / 45426 = d := ⟨_, rfl⟩
    obtain ⟨r, hr⟩ : ∃ r : Nat, y % 45426 = r := ⟨_, rfl⟩
    have ed : (y : Int) / 45426 = (d : Int) := by omega
    have er : (y : Int) % 45426 = (r : Int) := by omega
    show _ = some (shf (shf (polyAt ((y : Int) % 45426) 5) 14) ((y : Int) / 45426).toNat)
    rw [ed, er, Int.toNat_natCast]
    have e1 : wrap64 ((y : Int) - wrap64 (45426 * (d : Int))) = (r : Int) := by rw [w64 (x := 45426 * (d : Int)) (by omega), w64 (by omega)]; omega
    have hp := fun i hi => poly_mul (r : Int) (by omega) (by omega) i hi
    have hs := fun i hi => poly_small (r : Int) (by omega) (by omega) i hi
    have p1 : polyAt (r : Int) 1 = 35472643 := (poly_all (r : Int) (by omega) (by omega)).1
    have p2 : shf (polyAt (r : Int) 1 * r) 16 - 175978408 = polyAt (r : Int) 2 := by
      show _ = -175978408 + shf (polyAt (r : Int) 1 * r) 16
      omega
    have p3 : shf (polyAt (r : Int) 2 * r) 16 + 536691957 = polyAt (r : Int) 3 := by
      show _ = 536691957 + shf (polyAt (r : Int) 2 * r) 16
      omega
    have p4 : shf (polyAt (r : Int) 3 * r) 16 - 1073764153 = polyAt (r : Int) 4 := by
      show _ = -1073764153 + shf (polyAt (r : Int) 3 * r) 16
      omega
    have p5 : shf (polyAt (r : Int) 4 * r) 16 + 1073741824 = polyAt (r : Int) 5 := by
      show _ = 1073741824 + shf (polyAt (r : Int) 4 * r) 16
      omega
    have b1 := hp 1 (by omega)
    have b2 := hp 2 (by omega)
    have b3 := hp 3 (by omega)
    have b4 := hp 4 (by omega)
    have c2 := hs 2 (by omega)
    have c3 := hs 3 (by omega)
    have c4 := hs 4 (by omega)
    have c5 := hs 5 (by omega)
    have S16 : ∀ v : Int, -1152921504606846976 ≤ v → v ≤ 1152921504606846976 → augurref01_Shift.f k v 16 = some (shf v 16) := fun v h1 h2 => Shift_f ⟨h1, h2⟩ 16 (by omega) k (by omega)
    rw [e1, ← p1, w64 (x := polyAt (r : Int) 1 * r) (by omega), bind_some' (S16 _ (by omega) (by omega)), p2, w64 (x := polyAt (r : Int) 2) (by omega), w64 (x := polyAt (r : Int) 2 * r) (by omega), bind_some' (S16 _ (by omega) (by omega)), p3, w64 (x := polyAt (r : Int) 3) (by omega), w64 (x := polyAt (r : Int) 3 * r) (by omega), bind_some' (S16 _ (by omega) (by omega)), p4, w64 (x := polyAt (r : Int) 4) (by omega), w64 (x := polyAt (r : Int) 4 * r) (by omega), bind_some' (S16 _ (by omega) (by omega)), p5, w64 (x := polyAt (r : Int) 5) (by omega)]
    have S14 : augurref01_Shift.f k (polyAt (r : Int) 5) 14 = some (shf (polyAt (r : Int) 5) 14) := Shift_f ⟨by omega, by omega⟩ 14 (by omega) k (by omega)
    have hq : -1152921504606846976 ≤ shf (polyAt (r : Int) 5) 14 ∧ shf (polyAt (r : Int) 5) 14 ≤ 1152921504606846976 := by rw [shf14]; omega
    have SD : augurref01_Shift.f k (shf (polyAt (r : Int) 5) 14) (d : Int) = some (shf (shf (polyAt (r : Int) 5) 14) d) := Shift_f hq d (by omega) k (by omega)
    rw [bind_some' S14, bind_some' SD]
theorem Exp_f (z : Int) (hz : -1152921504606846976 ≤ z ∧ z ≤ 1152921504606846976) (k : Nat) (hk : 65 ≤ k) : augurref01_Exp.f k z = some (expf z) := by
  obtain ⟨k, rfl⟩ : ∃ k', k = k' + 1 := ⟨k - 1, by omega⟩
  unfold augurref01_Exp.f
  by_cases h : z > 0
  · rw [if_pos h, Exp_j (by omega) k (by omega) (by omega)]
    unfold expf
    rw [if_neg (by omega), if_neg (by omega), if_neg (by omega), if_pos (by omega)]
  · rw [if_neg h]
    exact Exp_j (by omega) k (by omega) hz.1
/-! ### Score -/
theorem Score_l {T K P N S : Int} (hN : 64 ≤ N ∧ N ≤ 1024) (l2 : List Int) (i : Nat) (c : Int) (hc : -16777216 ≤ c ∧ c ≤ 16777216) (hl : l2.length ≤ 17592186044416) : ∀ m j : Nat, j + m = l2.length → ∀ k, m + 10 ≤ k → augurref10_Score.l0 k l2 (i : Int) c (j : Int) T K P N S = some (if (i : Int) ∈ l2.drop j then seenf N c else c) := by
  intro m
  induction m with
  | zero =>
    intro j hj k hk
    obtain ⟨k, rfl⟩ : ∃ k', k = k' + 1 := ⟨k - 1, by omega⟩
    simp only [augurref10_Score.l0]
    rw [if_neg (by omega), List.drop_of_length_le (by omega)]
    simp
  | succ m ih =>
    intro j hj k hk
    obtain ⟨k, rfl⟩ : ∃ k', k = k' + 1 := ⟨k - 1, by omega⟩
    simp only [augurref10_Score.l0]
    have hd : l2.drop j = rd l2 (j : Int) :: l2.drop (j + 1) := drop_consI (by omega)
    rw [if_pos (by omega), if_pos (by omega), hd]
    by_cases he : rd l2 (j : Int) = (i : Int)
    · have hmem : (i : Int) ∈ rd l2 (j : Int) :: l2.drop (j + 1) := by rw [he]; simp
      rw [if_pos he, if_pos hmem]
      unfold seenf
      by_cases h0 : c > 0
      · rw [if_pos h0, if_pos h0, w64 (by omega), bind_some' (Div_f (by omega) (by omega))]
      · rw [if_neg h0, if_neg h0]
        have h1 : -16777216 * 1024 ≤ c * N ∧ c * N ≤ 0 := by
          constructor
          · have h2 : (-16777216) * N ≤ c * N := Int.mul_le_mul_of_nonneg_right hc.1 (by omega)
            omega
          · exact Int.mul_nonpos_of_nonpos_of_nonneg (by omega) (by omega)
        rw [w64 (by omega)]
        have h8 : augurref01_Shift.f k (c * N) 8 = some (shf (c * N) 8) := Shift_f ⟨by omega, by omega⟩ 8 (by omega) k (by omega)
        rw [bind_some' h8]
    · rw [if_neg he]
      have e : wrap64 ((j : Int) + 1) = ((j + 1 : Nat) : Int) := by rw [w64 (by omega)]; omega
      rw [e, ih (j + 1) (by omega) k (by omega)]
      have e2 : ((i : Int) ∈ rd l2 (j : Int) :: l2.drop (j + 1)) ↔ ((i : Int) ∈ l2.drop (j + 1)) := by
        rw [List.mem_cons]
        exact ⟨fun h => h.resolve_left (fun h => he h.symm), .inr⟩
      simp only [e2]
theorem Score_f {T K P N S : Int} (hN : 64 ≤ N ∧ N ≤ 1024) (l l2 : List Int) (i : Nat) (hi : i < l.length) (hl : l.length ≤ 1048576) (hl2 : l2.length ≤ 17592186044416) (k : Nat) (hk : l2.length + 10 ≤ k) : augurref10_Score.f k T K P N S l l2 (i : Int) = some (scoreAt N l2 l i) := by
  unfold augurref10_Score.f
  rw [if_pos (by omega), if_pos (by omega)]
  obtain ⟨k', hk'⟩ : ∃ k', k = k' + 1 := ⟨k - 1, by omega⟩
  have hcl : augurref01_Clamp.f k (rd l (i : Int)) 16777216 = some (wide (rd l (i : Int))) := by rw [hk']; exact Clamp_f _ _
  rw [bind_some' hcl]
  have := Score_l (T := T) (K := K) (P := P) (S := S) hN l2 i (wide (rd l (i : Int))) (wide_range _) hl2 l2.length 0 (by omega) k (by omega)
  rw [List.drop_zero] at this
  exact this
/-! ### Order -/
instance aheadD (K : Int → Int) (x y : Int) : Decidable (Srt.ahead K x y) := by unfold Srt.ahead; infer_instance
theorem Ahead_f {sc : List Int} {a b : Nat} (ha : a < sc.length) (hb : b < sc.length) : augurref09_Ahead.f sc (a : Int) (b : Int) = some (decide (Srt.ahead (kv sc) (a : Int) (b : Int))) := by
  unfold augurref09_Ahead.f
  rw [if_pos (by omega), if_pos (by omega), if_pos (by omega), if_pos (by omega)]
  have ea : rd sc (a : Int) = kv sc (a : Int) := rfl
  have eb : rd sc (b : Int) = kv sc (b : Int) := rfl
  rw [ea, eb]
  by_cases h1 : kv sc (a : Int) > kv sc (b : Int)
  · rw [if_pos h1, decide_eq_true (show Srt.ahead (kv sc) (a : Int) (b : Int) from .inl h1)]
  · rw [if_neg h1]
    by_cases h2 : kv sc (a : Int) = kv sc (b : Int)
    · rw [if_pos h2]
      by_cases h3 : (a : Int) < (b : Int)
      · rw [decide_eq_true h3, decide_eq_true (show Srt.ahead (kv sc) (a : Int) (b : Int) from .inr ⟨h2, h3⟩)]
      · rw [decide_eq_false h3, decide_eq_false (show ¬ Srt.ahead (kv sc) (a : Int) (b : Int) from fun h => h.elim (fun h => by omega) (fun h => h3 h.2))]
    · rw [if_neg h2, decide_eq_false (show ¬ Srt.ahead (kv sc) (a : Int) (b : Int) from fun h => h.elim (fun h => h1 h) (fun h => h2 h.1))]
def rankN (K : Int → Int) (n : Nat) (z : Int) : Nat := (nos 0 n).countP fun a => decide (Srt.ahead K a z)
theorem nos_succ (j m : Nat) : nos j (m + 1) = (j : Int) :: nos (j + 1) m := by
  unfold nos
  rw [List.range'_succ, List.map_cons]
theorem Rank_l {sc : List Int} {z : Nat} (hz : z < sc.length) (hl : sc.length ≤ 1048576) : ∀ m j n : Nat, j + m = sc.length → n ≤ j → ∀ k, m + 1 ≤ k → augurref09_Rank.l0 k sc (z : Int) (n : Int) (j : Int) = some ((n + (nos j m).countP fun a => decide (Srt.ahead (kv sc) a (z : Int)) : Nat) : Int) := by
  intro m
  induction m with
  | zero =>
    intro j n hj hn k hk
    obtain ⟨k, rfl⟩ : ∃ k', k = k' + 1 := ⟨k - 1, by omega⟩
    simp only [augurref09_Rank.l0]
    rw [if_neg (by omega)]
    rfl
  | succ m ih =>
    intro j n hj hn k hk
    obtain ⟨k, rfl⟩ : ∃ k', k = k' + 1 := ⟨k - 1, by omega⟩
    simp only [augurref09_Rank.l0]
    have e : wrap64 ((j : Int) + 1) = ((j + 1 : Nat) : Int) := by rw [w64 (by omega)]; omega
    have e2 : wrap64 ((n : Int) + 1) = ((n + 1 : Nat) : Int) := by rw [w64 (by omega)]; omega
    rw [if_pos (by omega), bind_some' (Ahead_f (by omega) hz), e, e2, nos_succ, List.countP_cons]
    by_cases h : Srt.ahead (kv sc) (j : Int) (z : Int)
    · rw [if_pos (decide_eq_true h), if_pos (decide_eq_true h), ih (j + 1) (n + 1) (by omega) (by omega) k (by omega)]
      congr 2
      omega
    · rw [if_neg (by simpa using h), if_neg (by simpa using h), ih (j + 1) n (by omega) (by omega) k (by omega)]
      rfl
theorem Rank_f {sc : List Int} {z : Nat} (hz : z < sc.length) (hl : sc.length ≤ 1048576) (k : Nat) (hk : sc.length + 1 ≤ k) : augurref09_Rank.f k sc (z : Int) = some ((rankN (kv sc) sc.length (z : Int) : Nat) : Int) := by
  unfold augurref09_Rank.f rankN
  have := Rank_l hz hl sc.length 0 0 (by omega) (by omega) k (by omega)
  rw [Nat.zero_add] at this
  exact this
theorem count_at {K : Int → Int} : ∀ {L : List Int} {j : Nat}, Srtd K L → j < L.length → L.countP (fun a => decide (Srt.ahead K a (L.getD j 0))) = j := by
  intro L
  induction L with
  | nil => intro j _ h; simp at h
  | cons x xs ih =>
    intro j hs hj
    have h1 := List.pairwise_cons.1 hs
    cases j with
    | zero =>
      rw [List.countP_eq_zero]
      intro a ha
      have e : (x :: xs).getD 0 0 = x := rfl
      rw [e]
      rcases List.mem_cons.1 ha with h | h
      · rw [h]; simpa using ahead_irrefl
      · simpa using ahead_asymm (h1.1 a h)
    | succ j =>
      have e : (x :: xs).getD (j + 1) 0 = xs.getD j 0 := rfl
      have hj2 : j < xs.length := by simpa using hj
      rw [e, List.countP_cons, ih h1.2 hj2, if_pos]
      refine decide_eq_true (h1.1 _ ?_)
      rw [List.getD_eq_getElem?_getD, List.getElem?_eq_getElem hj2]
      exact List.getElem_mem _
theorem rank_at {K : Int → Int} {n j : Nat} (hj : j < n) : rankN K n ((ordl K n).getD j 0) = j := by
  unfold rankN
  rw [← (ordl_perm K n).countP_eq]
  exact count_at (ordl_srtd K n) (by rw [Heads.ordl_len]; exact hj)
theorem rank_find {K : Int → Int} {n z : Nat} (hz : z < n) : ∃ j, j < n ∧ rankN K n (z : Int) = j ∧ (ordl K n).getD j 0 = (z : Int) := by
  have hm : (z : Int) ∈ ordl K n := (ordl_perm K n).mem_iff.2 (by rw [nos_mem]; omega)
  obtain ⟨j, hj, e⟩ := List.getElem_of_mem hm
  have hl := Heads.ordl_len K n
  have e2 : (ordl K n).getD j 0 = (z : Int) := by rw [List.getD_eq_getElem?_getD, List.getElem?_eq_getElem hj, e]; rfl
  refine ⟨j, by omega, ?_, e2⟩
  rw [← e2]
  exact rank_at (by omega)
/-- The order while it is filled. -/
def part (K : Int → Int) (n i : Nat) : List Int := (ordl K n).map fun z => if z < (i : Int) then z else 0
theorem part_len (K : Int → Int) (n i : Nat) : (part K n i).length = n := by unfold part; rw [List.length_map, Heads.ordl_len]
theorem part_zero (K : Int → Int) (n : Nat) : part K n 0 = List.replicate n 0 := by
  have e : ∀ z ∈ ordl K n, (fun z : Int => if z < ((0 : Nat) : Int) then z else 0) z = 0 := by
    intro z hz
    have := (ordl_perm K n).mem_iff.1 hz
    rw [nos_mem] at this
    show (if z < ((0 : Nat) : Int) then z else 0) = 0
    rw [if_neg (by omega)]
  unfold part
  rw [List.map_congr_left e, List.map_const', Heads.ordl_len]
theorem part_full (K : Int → Int) (n : Nat) : part K n n = ordl K n := by
  unfold part
  have e : ∀ z ∈ ordl K n, (fun z : Int => if z < (n : Int) then z else 0) z = id z := by
    intro z hz
    have := (ordl_perm K n).mem_iff.1 hz
    rw [nos_mem] at this
    show (if z < (n : Int) then z else 0) = z
    rw [if_pos (by omega)]
  rw [List.map_congr_left e, List.map_id]
theorem part_next {K : Int → Int} {n i j : Nat} (hj : j < n) (he : (ordl K n).getD j 0 = (i : Int)) : (part K n i).set j (i : Int) = part K n (i + 1) := by
  have hl := Heads.ordl_len K n
  have hd : (ordl K n).Nodup := (ordl_perm K n).nodup_iff.2 nos_nodup
  rw [List.getD_eq_getElem?_getD, List.getElem?_eq_getElem (by omega)] at he
  have he2 : (ordl K n)[j]'(by omega) = (i : Int) := he
  apply List.ext_getElem?
  intro t
  by_cases ht : t < n
  · by_cases e : j = t
    · subst e
      unfold part
      rw [List.getElem?_set_self (by rw [List.length_map]; omega), List.getElem?_map, List.getElem?_eq_getElem (by omega), Option.map_some, he2, if_pos (by omega)]
    · have hne : (ordl K n)[t]'(by omega) ≠ (i : Int) := by
        rw [← he2]
        rcases Nat.lt_or_gt_of_ne e with h | h
        · exact fun h2 => List.pairwise_iff_getElem.1 hd j t (by omega) (by omega) h h2.symm
        · exact fun h2 => List.pairwise_iff_getElem.1 hd t j (by omega) (by omega) h h2
      rw [List.getElem?_set_ne e]
      unfold part
      rw [List.getElem?_map, List.getElem?_map, List.getElem?_eq_getElem (by omega), Option.map_some, Option.map_some]
      congr 1
      by_cases h : (ordl K n)[t]'(by omega) < (i : Int)
      · rw [if_pos h, if_pos (by omega)]
      · rw [if_neg h, if_neg (by omega)]
  · rw [List.getElem?_eq_none (by rw [List.length_set, part_len]; omega), List.getElem?_eq_none (by rw [part_len]; omega)]
theorem Order_l1 {sc : List Int} (hl : sc.length ≤ 1048576) : ∀ m i : Nat, i + m = sc.length → ∀ k, m + sc.length + 2 ≤ k → augurref09_Order.l1 k sc (part (kv sc) sc.length i) (i : Int) = some (ordl (kv sc) sc.length) := by
  intro m
  induction m with
  | zero =>
    intro i hi k hk
    obtain ⟨k, rfl⟩ : ∃ k', k = k' + 1 := ⟨k - 1, by omega⟩
    simp only [augurref09_Order.l1]
    rw [if_neg (by omega), show i = sc.length by omega, part_full]
  | succ m ih =>
    intro i hi k hk
    obtain ⟨k, rfl⟩ : ∃ k', k = k' + 1 := ⟨k - 1, by omega⟩
    simp only [augurref09_Order.l1]
    have e : wrap64 ((i : Int) + 1) = ((i + 1 : Nat) : Int) := by rw [w64 (by omega)]; omega
    obtain ⟨j, hj, hr, ho⟩ := rank_find (K := kv sc) (n := sc.length) (z := i) (by omega)
    rw [if_pos (by omega), bind_some' (Rank_f (by omega) hl k (by omega)), hr, if_pos (by omega), if_pos (by rw [part_len]; omega), Int.toNat_natCast, part_next hj ho, e]
    exact ih (i + 1) (by omega) k (by omega)
theorem Order_l0 {sc : List Int} (hl : sc.length ≤ 1048576) : ∀ m i : Nat, i + m = sc.length → ∀ k, m + 2 * sc.length + 3 ≤ k → augurref09_Order.l0 k sc (List.replicate i 0) (i : Int) = some (ordl (kv sc) sc.length) := by
  intro m
  induction m with
  | zero =>
    intro i hi k hk
    obtain ⟨k, rfl⟩ : ∃ k', k = k' + 1 := ⟨k - 1, by omega⟩
    simp only [augurref09_Order.l0]
    rw [if_neg (by omega), show i = sc.length by omega, ← part_zero (kv sc)]
    exact Order_l1 hl sc.length 0 (by omega) k (by omega)
  | succ m ih =>
    intro i hi k hk
    obtain ⟨k, rfl⟩ : ∃ k', k = k' + 1 := ⟨k - 1, by omega⟩
    simp only [augurref09_Order.l0]
    have e : wrap64 ((i : Int) + 1) = ((i + 1 : Nat) : Int) := by rw [w64 (by omega)]; omega
    rw [if_pos (by omega), if_pos (by rw [List.length_replicate]; omega), e, ← List.replicate_succ']
    exact ih (i + 1) (by omega) k (by omega)
theorem Order_f {sc : List Int} (hl : sc.length ≤ 1048576) (k : Nat) (hk : 3 * sc.length + 3 ≤ k) : augurref09_Order.f k sc = some (ordl (kv sc) sc.length) := Order_l0 hl sc.length 0 (by omega) k (by omega)
theorem Allowed_f (al : List Bool) (t : Int) (h : 0 ≤ t) : augurref10_Allowed.f al t = some (mayb al t.toNat) := by
  unfold augurref10_Allowed.f mayb rdOf
  by_cases h0 : (al.length : Int) = 0
  · have h1 : al.length = 0 := by omega
    rw [if_pos h0]
    simp [h1]
  · have h1 : ¬ al.length = 0 := by omega
    rw [if_neg h0]
    by_cases h2 : t < (al.length : Int)
    · have h3 : t.toNat < al.length := by omega
      rw [if_pos h2, if_pos h]
      simp [h1, h3]
    · have h3 : ¬ t.toNat < al.length := by omega
      rw [if_neg h2]
      simp [h1, h3]
#print axioms Order_f
#print axioms Exp_f
#print axioms Score_f
end Go.Proofs.YtfnphepiopncbaaDoor.Pick
