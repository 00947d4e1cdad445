/- Plain laws of a sort by an order of numbers: what is ahead, insertion, merging in place, rotation. Conditions: none. -/
namespace Go.Proofs.Ytfokcaillibajaa.Srt
set_option linter.unusedVariables false
set_option linter.unusedSimpArgs false

/-- x stands ahead of y: by the greater value, then by the lower number. -/
def ahead (K : Int → Int) (x y : Int) : Prop := K y < K x ∨ (K x = K y ∧ x < y)
theorem ahead_trans {K : Int → Int} {x y z : Int} (h1 : ahead K x y) (h2 : ahead K y z) : ahead K x z := by unfold ahead at *; omega
theorem ahead_total {K : Int → Int} {x y : Int} (h : x ≠ y) : ahead K x y ∨ ahead K y x := by unfold ahead; omega
theorem ahead_irrefl {K : Int → Int} {x : Int} : ¬ ahead K x x := by unfold ahead; omega
theorem ahead_asymm {K : Int → Int} {x y : Int} (h : ahead K x y) : ¬ ahead K y x := by unfold ahead at *; omega
/-- Of a later number and an earlier one the values alone decide. -/
theorem later_ahead {K : Int → Int} {x y : Int} (h : x < y) : ahead K y x ↔ K x < K y := by unfold ahead; omega
theorem earlier_ahead {K : Int → Int} {x y : Int} (h : x < y) : ahead K x y ↔ ¬ K x < K y := by unfold ahead; omega
abbrev Srtd (K : Int → Int) (l : List Int) : Prop := l.Pairwise (ahead K)

/-! ### one list alone is in order -/
theorem srtd_unique {K : Int → Int} : ∀ {l l' : List Int}, Srtd K l → Srtd K l' → l.Perm l' → l = l'
  | [], l', _, _, hp => by rw [List.nil_perm.1 hp]
  | a :: l, [], _, _, hp => by
    have := hp.length_eq
    simp at this
  | a :: l, b :: l', h, h', hp => by
    have h1 := List.pairwise_cons.1 h
    have h2 := List.pairwise_cons.1 h'
    have e : a = b := by
      have ha : a ∈ b :: l' := hp.mem_iff.1 (by simp)
      have hb : b ∈ a :: l := hp.mem_iff.2 (by simp)
      rcases List.mem_cons.1 ha with e | ha
      · exact e
      · rcases List.mem_cons.1 hb with e | hb
        · exact e.symm
        · exact absurd (h1.1 b hb) (ahead_asymm (h2.1 a ha))
    subst e
    rw [srtd_unique h1.2 h2.2 ((List.perm_cons a).1 hp)]
def le2 (K : Int → Int) (x y : Int) : Bool := decide (K y < K x ∨ (K x = K y ∧ x ≤ y))
/-- The k numbers from lo on. -/
def nos (lo k : Nat) : List Int := (List.range' lo k).map (fun (i : Nat) => (i : Int))
theorem nos_mem {lo k : Nat} {x : Int} : x ∈ nos lo k ↔ ↑lo ≤ x ∧ x < lo + k := by
  unfold nos
  rw [List.mem_map]
  constructor
  · rintro ⟨i, hi, rfl⟩
    have := List.mem_range'_1.1 hi
    omega
  · intro h
    exact ⟨x.toNat, List.mem_range'_1.2 (by omega), by omega⟩
theorem nos_length {lo k : Nat} : (nos lo k).length = k := by unfold nos; rw [List.length_map, List.length_range']
theorem nos_pair {lo k : Nat} : (nos lo k).Pairwise (· < ·) := by
  unfold nos
  rw [List.pairwise_map]
  exact (List.pairwise_lt_range' (s := lo) (n := k) (step := 1)).imp (fun h => by omega)
theorem nos_nodup {lo k : Nat} : (nos lo k).Nodup := nos_pair.imp (fun h => by omega)
theorem nos_add {lo a b : Nat} : nos lo (a + b) = nos lo a ++ nos (lo + a) b := by
  unfold nos
  rw [← List.range'_append_1, List.map_append]
theorem nos_get {lo k i : Nat} (h : i < k) : (nos lo k)[i]? = some ((lo + i : Nat) : Int) := by
  unfold nos
  rw [List.getElem?_map, List.getElem?_range' h, Option.map_some]
  congr 2
  omega
/-- All numbers below n in their order. -/
def ordl (K : Int → Int) (n : Nat) : List Int := (nos 0 n).mergeSort (le2 K)
theorem ordl_perm (K : Int → Int) (n : Nat) : (ordl K n).Perm (nos 0 n) := List.mergeSort_perm _ _
theorem ordl_srtd (K : Int → Int) (n : Nat) : Srtd K (ordl K n) := by
  have h1 : (ordl K n).Pairwise (fun a b => le2 K a b = true) := List.pairwise_mergeSort (fun a b c => by simp only [le2, decide_eq_true_eq]; omega) (fun a b => by simp only [le2, Bool.or_eq_true, decide_eq_true_eq]; omega) _
  have h2 : (ordl K n).Nodup := (ordl_perm K n).nodup_iff.2 nos_nodup
  exact (List.pairwise_and_iff.2 ⟨h1, h2⟩).imp (fun {a b} h => by
    have h3 := h.1
    have h4 : a ≠ b := h.2
    simp only [le2, decide_eq_true_eq] at h3
    unfold ahead
    omega)
theorem ordl_of {K : Int → Int} {n : Nat} {l : List Int} (hp : l.Perm (nos 0 n)) (hs : Srtd K l) : l = ordl K n := srtd_unique hs (ordl_srtd K n) (hp.trans (ordl_perm K n).symm)

/-! ### insertion -/
/-- x is put between those ahead of it and the others. -/
theorem srtd_insert {K : Int → Int} {S1 S2 : List Int} {x : Int} (h : Srtd K (S1 ++ S2)) (h1 : ∀ y, y ∈ S1.getLast? → ahead K y x) (h2 : ∀ y ∈ S2, ahead K x y) : Srtd K (S1 ++ x :: S2) := by
  have h := List.pairwise_append.1 h
  refine List.pairwise_append.2 ?_
  have hall : ∀ y ∈ S1, ahead K y x := fun y hy => by
    cases hl : S1.getLast? with
    | none => rw [List.getLast?_eq_none_iff] at hl; subst hl; simp at hy
    | some z =>
      have hz := h1 z hl
      obtain ⟨T, rfl⟩ := List.getLast?_eq_some_iff.1 hl
      rcases List.mem_append.1 hy with hy | hy
      · have := (List.pairwise_append.1 h.1).2.2 y hy z (by simp)
        exact ahead_trans this hz
      · rw [List.mem_singleton.1 hy]; exact hz
  refine ⟨h.1, List.pairwise_cons.2 ⟨h2, h.2.1⟩, fun a ha b hb => ?_⟩
  rcases List.mem_cons.1 hb with rfl | hb
  · exact hall a ha
  · exact h.2.2 a ha b hb

/-! ### merging -/
/-- Two runs, cut so that the first parts stand ahead of the second ones. -/
theorem merge_cut {K : Int → Int} {A1 A2 B1 B2 C1 C2 : List Int} (hA : Srtd K (A1 ++ A2)) (hB : Srtd K (B1 ++ B2)) (h1 : ∀ x ∈ A1, ∀ y ∈ B2, ahead K x y) (h2 : ∀ x ∈ B1, ∀ y ∈ A2, ahead K x y)
    (p1 : C1.Perm (A1 ++ B1)) (s1 : Srtd K C1) (p2 : C2.Perm (A2 ++ B2)) (s2 : Srtd K C2) : Srtd K (C1 ++ C2) ∧ (C1 ++ C2).Perm ((A1 ++ A2) ++ (B1 ++ B2)) := by
  have hA := List.pairwise_append.1 hA
  have hB := List.pairwise_append.1 hB
  refine ⟨List.pairwise_append.2 ⟨s1, s2, fun x hx y hy => ?_⟩, ?_⟩
  · rcases List.mem_append.1 (p1.mem_iff.1 hx) with hx | hx
    · rcases List.mem_append.1 (p2.mem_iff.1 hy) with hy | hy
      · exact hA.2.2 x hx y hy
      · exact h1 x hx y hy
    · rcases List.mem_append.1 (p2.mem_iff.1 hy) with hy | hy
      · exact h2 x hx y hy
      · exact hB.2.2 x hx y hy
  · refine (List.Perm.append p1 p2).trans ?_
    rw [List.append_assoc, List.append_assoc]
    refine List.Perm.append_left A1 ?_
    rw [← List.append_assoc, ← List.append_assoc]
    exact List.Perm.append_right B2 (List.perm_append_comm)
/-- The last of a run ahead of the first of another: all ahead of all. -/
theorem all_ahead {K : Int → Int} {A B : List Int} (hA : Srtd K A) (hB : Srtd K B) (h : ∀ x y, A.getLast? = some x → B.head? = some y → ahead K x y) : ∀ x ∈ A, ∀ y ∈ B, ahead K x y := by
  intro x hx y hy
  cases hl : A.getLast? with
  | none => rw [List.getLast?_eq_none_iff] at hl; subst hl; simp at hx
  | some u =>
    cases B with
    | nil => simp at hy
    | cons v B =>
      have huv := h u v hl rfl
      obtain ⟨T, rfl⟩ := List.getLast?_eq_some_iff.1 hl
      have hxu : x = u ∨ ahead K x u := by
        rcases List.mem_append.1 hx with hx | hx
        · exact .inr ((List.pairwise_append.1 hA).2.2 x hx u (by simp))
        · exact .inl (List.mem_singleton.1 hx)
      have hvy : y = v ∨ ahead K v y := by
        rcases List.mem_cons.1 hy with e | hy
        · exact .inl e
        · exact .inr ((List.pairwise_cons.1 hB).1 y hy)
      rcases hxu with rfl | hxu <;> rcases hvy with rfl | hvy
      · exact huv
      · exact ahead_trans huv hvy
      · exact ahead_trans hxu huv
      · exact ahead_trans hxu (ahead_trans huv hvy)

/-! ### segments -/
def seg (L : List Int) (lo hi : Nat) : List Int := (L.drop lo).take (hi - lo)
theorem seg_mid {P C T : List Int} {lo hi : Nat} (h1 : P.length = lo) (h2 : lo + C.length = hi) : seg (P ++ C ++ T) lo hi = C := by
  unfold seg
  rw [List.append_assoc, List.drop_left' h1, List.take_left' (by omega)]
theorem seg_far {P C C' T : List Int} {lo hi a b : Nat} (h1 : P.length = a) (h2 : a + C.length = b) (h3 : C'.length = C.length) (hd : hi ≤ a ∨ b ≤ lo) : seg (P ++ C' ++ T) lo hi = seg (P ++ C ++ T) lo hi := by
  unfold seg
  apply List.ext_getElem?
  intro j
  rw [List.getElem?_take, List.getElem?_take]
  by_cases hj : j < hi - lo
  · rw [if_pos hj, if_pos hj, List.getElem?_drop, List.getElem?_drop, List.append_assoc, List.append_assoc]
    simp only [List.getElem?_append, h3]
    by_cases h4 : lo + j < P.length
    · (repeat (first | rw [if_pos (by omega)] | rw [if_neg (by omega)]))
    · (repeat (first | rw [if_pos (by omega)] | rw [if_neg (by omega)]))
  · rw [if_neg hj, if_neg hj]
theorem seg_len {L : List Int} {lo hi : Nat} (h : hi ≤ L.length) : (seg L lo hi).length = hi - lo := by
  unfold seg
  rw [List.length_take, List.length_drop]
  omega
theorem seg_split {L : List Int} {lo hi : Nat} (h1 : lo ≤ hi) (h2 : hi ≤ L.length) : L = L.take lo ++ seg L lo hi ++ L.drop hi := by
  unfold seg
  have e1 : L = L.take lo ++ L.drop lo := (List.take_append_drop lo L).symm
  have e2 : L.drop lo = (L.drop lo).take (hi - lo) ++ (L.drop lo).drop (hi - lo) := (List.take_append_drop _ _).symm
  rw [List.drop_drop, show lo + (hi - lo) = hi by omega] at e2
  conv => lhs; rw [e1, e2]
  rw [List.append_assoc]
theorem seg_join {L : List Int} {lo mid hi : Nat} (h1 : lo ≤ mid) (h2 : mid ≤ hi) (h3 : hi ≤ L.length) : seg L lo hi = seg L lo mid ++ seg L mid hi := by
  unfold seg
  rw [show hi - lo = (mid - lo) + (hi - mid) by omega, List.take_add, List.drop_drop, show lo + (mid - lo) = mid by omega]
/-- A segment in order that holds just its own numbers. -/
def Good (K : Int → Int) (L : List Int) (lo hi : Nat) : Prop := Srtd K (seg L lo hi) ∧ (seg L lo hi).Perm (nos lo (hi - lo))
theorem good_one {K : Int → Int} {L : List Int} {n : Nat} (hl : L.length = n) (h : Good K L 0 n) : L = ordl K n := by
  have e : seg L 0 n = L := by unfold seg; rw [List.drop_zero, Nat.sub_zero, List.take_of_length_le (by omega)]
  rw [Good, e, Nat.sub_zero] at h
  exact ordl_of h.2 h.1
/-- Two good neighbours: what merging them asks, and what it gives. -/
theorem good_apart {K : Int → Int} {L : List Int} {lo mid hi : Nat} (h1 : Good K L lo mid) (h2 : Good K L mid hi) : ∀ x ∈ seg L lo mid, ∀ y ∈ seg L mid hi, x < y := by
  intro x hx y hy
  have h3 := nos_mem.1 (h1.2.mem_iff.1 hx)
  have h4 := nos_mem.1 (h2.2.mem_iff.1 hy)
  omega
theorem good_merge {K : Int → Int} {L L' : List Int} {lo mid hi : Nat} (hlm : lo ≤ mid) (hmh : mid ≤ hi) (h1 : Good K L lo mid) (h2 : Good K L mid hi) (hs : Srtd K (seg L' lo hi)) (hp : (seg L' lo hi).Perm (seg L lo mid ++ seg L mid hi)) : Good K L' lo hi := by
  refine ⟨hs, hp.trans ((h1.2.append h2.2).trans ?_)⟩
  have e : hi - lo = (mid - lo) + (hi - mid) := by omega
  rw [e, nos_add, show lo + (mid - lo) = mid by omega]
/-! ### swapping -/
def swap (L : List Int) (i j : Nat) : List Int := (L.set i (L.getD j 0)).set j (L.getD i 0)
theorem swap_len {L : List Int} {i j : Nat} : (swap L i j).length = L.length := by unfold swap; rw [List.length_set, List.length_set]
theorem swap_get {L : List Int} {i j k : Nat} (hi : i < L.length) (hj : j < L.length) : (swap L i j)[k]? = if k = j then L[i]? else if k = i then L[j]? else L[k]? := by
  unfold swap
  rw [List.getElem?_set, List.length_set, List.getElem?_set]
  by_cases h1 : j = k
  · subst h1
    simp [hj, List.getD_eq_getElem?_getD, List.getElem?_eq_getElem hi]
  · by_cases h2 : i = k
    · subst h2
      simp [h1, Ne.symm h1, hi, List.getD_eq_getElem?_getD, List.getElem?_eq_getElem hj]
    · simp [h1, h2, Ne.symm h1, Ne.symm h2]
/-- The first k of two stretches swapped one by one. -/
def swr (L : List Int) (a b : Nat) : Nat → List Int
  | 0 => L
  | k + 1 => swap (swr L a b k) (a + k) (b + k)
theorem swr_len {L : List Int} {a b : Nat} : ∀ {k : Nat}, (swr L a b k).length = L.length
  | 0 => rfl
  | k + 1 => by rw [swr, swap_len, swr_len]
theorem swr_get {L : List Int} {a b : Nat} : ∀ {k : Nat}, a + k ≤ b → b + k ≤ L.length → ∀ t, (swr L a b k)[t]? = if a ≤ t ∧ t < a + k then L[t + (b - a)]? else if b ≤ t ∧ t < b + k then L[t - (b - a)]? else L[t]?
  | 0, _, _, t => by
    rw [if_neg (by omega), if_neg (by omega), swr]
  | k + 1, h1, h2, t => by
    rw [swr, swap_get (by rw [swr_len]; omega) (by rw [swr_len]; omega)]
    have e1 := swr_get (L := L) (a := a) (b := b) (k := k) (by omega) (by omega) (a + k)
    have e2 := swr_get (L := L) (a := a) (b := b) (k := k) (by omega) (by omega) (b + k)
    have e3 := swr_get (L := L) (a := a) (b := b) (k := k) (by omega) (by omega) t
    rw [if_neg (by omega), if_neg (by omega)] at e1 e2
    rw [e1, e2, e3]
    by_cases c1 : t = b + k
    · subst c1
      rw [if_pos rfl, if_neg (by omega), if_pos (by omega)]
      congr 1; omega
    · rw [if_neg c1]
      by_cases c2 : t = a + k
      · subst c2
        rw [if_pos rfl, if_pos (by omega)]
        congr 1; omega
      · rw [if_neg c2]
        by_cases c3 : a ≤ t ∧ t < a + k
        · rw [if_pos c3, if_pos (by omega)]
        · by_cases c4 : b ≤ t ∧ t < b + k
          · rw [if_neg c3, if_pos c4, if_neg (by omega), if_pos (by omega)]
          · rw [if_neg c3, if_neg c4, if_neg (by omega), if_neg (by omega)]
theorem swr_blocks {P U M V S : List Int} (h : U.length = V.length) {a b k : Nat} (ha : a = P.length) (hb : b = P.length + U.length + M.length) (hk : k = U.length) : swr (P ++ (U ++ (M ++ (V ++ S)))) a b k = P ++ (V ++ (M ++ (U ++ S))) := by
  subst ha hb hk
  apply List.ext_getElem?
  intro t
  rw [swr_get (by omega) (by simp only [List.length_append]; omega)]
  simp only [List.getElem?_append]
  by_cases c1 : t < P.length
  · (repeat (first | rw [if_pos (by omega)] | rw [if_neg (by omega)]))
  · by_cases c2 : t < P.length + U.length
    · (repeat (first | rw [if_pos (by omega)] | rw [if_neg (by omega)]))
      congr 1; omega
    · by_cases c3 : t < P.length + U.length + M.length
      · (repeat (first | rw [if_pos (by omega)] | rw [if_neg (by omega)]))
        congr 1; omega
      · by_cases c4 : t < P.length + U.length + M.length + V.length
        · (repeat (first | rw [if_pos (by omega)] | rw [if_neg (by omega)]))
          congr 1; omega
        · (repeat (first | rw [if_pos (by omega)] | rw [if_neg (by omega)]))
          congr 1; omega
theorem swap_pair {P S : List Int} {x y : Int} {i j : Nat} (hi : i = P.length) (hj : j = P.length + 1) : swap (P ++ x :: y :: S) i j = P ++ y :: x :: S ∧ swap (P ++ x :: y :: S) j i = P ++ y :: x :: S := by
  subst hi hj
  have hl : (P ++ x :: y :: S).length = P.length + (S.length + 2) := by simp
  constructor
  · apply List.ext_getElem?
    intro t
    rw [swap_get (by omega) (by omega)]
    by_cases c1 : t = P.length + 1
    · subst c1; simp
    · by_cases c2 : t = P.length
      · subst c2; simp
      · rw [if_neg c1, if_neg c2, List.getElem?_append, List.getElem?_append]
        by_cases c3 : t < P.length
        · rw [if_pos c3, if_pos c3]
        · rw [if_neg c3, if_neg c3]
          obtain ⟨k, rfl⟩ : ∃ k, t = P.length + (k + 2) := ⟨t - P.length - 2, by omega⟩
          simp
  · apply List.ext_getElem?
    intro t
    rw [swap_get (by omega) (by omega)]
    by_cases c1 : t = P.length + 1
    · subst c1; simp
    · by_cases c2 : t = P.length
      · subst c2; simp
      · rw [if_neg c2, if_neg c1, List.getElem?_append, List.getElem?_append]
        by_cases c3 : t < P.length
        · rw [if_pos c3, if_pos c3]
        · rw [if_neg c3, if_neg c3]
          obtain ⟨k, rfl⟩ : ∃ k, t = P.length + (k + 2) := ⟨t - P.length - 2, by omega⟩
          simp
#print axioms swr_blocks
#print axioms ordl_of
#print axioms good_merge
end Go.Proofs.Ytfokcaillibajaa.Srt
