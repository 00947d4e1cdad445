/- The stable sort of the numbers 0, 1, .. by an order. Conditions: the order's function answers as the values say. -/
import Derived.Test.YtfokcaillibajaaSortE
namespace Go.Proofs.Ytfokcaillibajaa.Srt
open Go.RowKit Go.Proofs.YtfokcaillibajaaW.PrintWords
set_option linter.unusedVariables false
set_option linter.unusedSimpArgs false

/-! ### plain: blocks that are in order -/
structure Put (K : Int → Int) (L L' : List Int) (lo hi : Nat) : Prop where
  len : L'.length = L.length
  good : Good K L' lo hi
  far : ∀ x y, y ≤ lo ∨ hi ≤ x → seg L' x y = seg L x y
theorem Put.mk' {K : Int → Int} {L C : List Int} {lo hi : Nat} (h1 : lo ≤ hi) (h2 : hi ≤ L.length) (p : C.Perm (nos lo (hi - lo))) (s : Srtd K C) : Put K L (L.take lo ++ (C ++ L.drop hi)) lo hi := by
  have hC : C.length = hi - lo := by rw [p.length_eq, nos_length]
  have hT : (L.take lo).length = lo := by rw [List.length_take]; omega
  have hD : (L.drop hi).length = L.length - hi := List.length_drop
  have e : seg (L.take lo ++ C ++ L.drop hi) lo hi = C := seg_mid hT (by omega)
  refine ⟨?_, ?_, fun x y h => ?_⟩
  · simp only [List.length_append]; omega
  · rw [← List.append_assoc]
    exact ⟨by rw [e]; exact s, by rw [e]; exact p⟩
  · rw [← List.append_assoc]
    have hs := seg_split h1 h2
    conv => rhs; rw [hs]
    exact seg_far hT (show lo + (seg L lo hi).length = hi by rw [seg_len h2]; omega) (by rw [seg_len h2, hC]) h
theorem Put.keep {K : Int → Int} {L L' : List Int} {lo hi x y : Nat} (h : Put K L L' lo hi) (hd : y ≤ lo ∨ hi ≤ x) (g : Good K L x y) : Good K L' x y := by
  unfold Good at *
  rw [h.far x y hd]
  exact g
theorem good_perm {K : Int → Int} {L : List Int} {lo mid hi : Nat} (h1 : lo ≤ mid) (h2 : mid ≤ hi) (g1 : Good K L lo mid) (g2 : Good K L mid hi) : (seg L lo mid ++ seg L mid hi).Perm (nos lo (hi - lo)) := by
  have e : hi - lo = (mid - lo) + (hi - mid) := by omega
  rw [e, nos_add, show lo + (mid - lo) = mid by omega]
  exact g1.2.append g2.2
/-- All blocks of so many are in order. -/
structure Blk (K : Int → Int) (N : Nat) (L : List Int) (bs : Nat) : Prop where
  len : L.length = N
  blk : ∀ j, bs * j < N → Good K L (bs * j) (min (bs * j + bs) N)
/-- The first t blocks of twice so many, and the others of so many, are in order. -/
structure Half (K : Int → Int) (N : Nat) (L : List Int) (bs t : Nat) : Prop where
  len : L.length = N
  two : ∀ j, j < t → Good K L (2 * bs * j) (2 * bs * j + 2 * bs)
  one : ∀ j, 2 * t ≤ j → bs * j < N → Good K L (bs * j) (min (bs * j + bs) N)
theorem Blk.half {K : Int → Int} {N : Nat} {L : List Int} {bs : Nat} (h : Blk K N L bs) : Half K N L bs 0 := ⟨h.len, fun j hj => absurd hj (Nat.not_lt_zero _), fun j _ hj => h.blk j hj⟩
theorem mul2 (bs t : Nat) : bs * (2 * t) = 2 * bs * t ∧ bs * (2 * t + 1) = 2 * bs * t + bs ∧ 2 * bs * (t + 1) = 2 * bs * t + 2 * bs := by
  have e : bs * (2 * t) = 2 * bs * t := by rw [← Nat.mul_assoc, Nat.mul_comm bs 2]
  exact ⟨e, by rw [Nat.mul_add, e, Nat.mul_one], by rw [Nat.mul_add, Nat.mul_one]⟩
theorem Half.pair {K : Int → Int} {N : Nat} {L : List Int} {bs t a m : Nat} (h : Half K N L bs t) (hbs : 0 < bs) (ha : a = 2 * bs * t) (hm : m = a + bs) (hmN : m < N) : Good K L a m ∧ Good K L m (min (m + bs) N) := by
  obtain ⟨e1, e2, _⟩ := mul2 bs t
  have g1 := h.one (2 * t) (Nat.le_refl _) (by omega)
  have g2 := h.one (2 * t + 1) (by omega) (by omega)
  rw [e1] at g1
  rw [e2] at g2
  rw [← ha, show min (a + bs) N = m by omega] at g1
  rw [← ha, ← hm] at g2
  exact ⟨g1, g2⟩
theorem Half.next {K : Int → Int} {N : Nat} {L L' : List Int} {bs t a b : Nat} (h : Half K N L bs t) (ha : a = 2 * bs * t) (hb : b = a + 2 * bs) (hbN : b ≤ N) (p : Put K L L' a b) : Half K N L' bs (t + 1) := by
  obtain ⟨e1, e2, e3⟩ := mul2 bs t
  refine ⟨p.len.trans h.len, fun j hj => ?_, fun j hj hN => ?_⟩
  · rcases Nat.lt_or_ge j t with hjt | hjt
    · have hm : 2 * bs * (j + 1) ≤ 2 * bs * t := Nat.mul_le_mul_left _ hjt
      rw [(mul2 bs j).2.2] at hm
      exact p.keep (.inl (by omega)) (h.two j hjt)
    · obtain rfl : j = t := by omega
      rw [← ha, ← hb]
      exact p.good
  · have hm : bs * (2 * t + 2) ≤ bs * j := Nat.mul_le_mul_left _ (by omega)
    rw [show 2 * t + 2 = 2 * (t + 1) by omega, (mul2 bs (t + 1)).1, e3] at hm
    exact p.keep (.inr (by omega)) (h.one j (by omega) hN)
theorem Half.last {K : Int → Int} {N : Nat} {L L' : List Int} {bs t a : Nat} (h : Half K N L bs t) (hbs : 0 < bs) (ha : a = 2 * bs * t) (haN0 : a ≤ N) (haN : N < a + 2 * bs) (p : Put K L L' a N) : Blk K N L' (2 * bs) := by
  refine ⟨p.len.trans h.len, fun j hj => ?_⟩
  rcases Nat.lt_or_ge j t with hjt | hjt
  · have hm : 2 * bs * (j + 1) ≤ 2 * bs * t := Nat.mul_le_mul_left _ hjt
    rw [(mul2 bs j).2.2] at hm
    have := p.keep (.inl (by omega)) (h.two j hjt)
    rw [show min (2 * bs * j + 2 * bs) N = 2 * bs * j + 2 * bs by omega]
    exact this
  · obtain rfl : j = t := by
      rcases Nat.lt_or_ge t j with hh | hh
      · have hm : 2 * bs * (t + 1) ≤ 2 * bs * j := Nat.mul_le_mul_left _ hh
        rw [(mul2 bs t).2.2] at hm
        omega
      · omega
    rw [← ha, show min (a + 2 * bs) N = N by omega]
    exact p.good
theorem Half.stay {K : Int → Int} {N : Nat} {L : List Int} {bs t a : Nat} (h : Half K N L bs t) (hbs : 0 < bs) (ha : a = 2 * bs * t) (haN : N ≤ a + bs) : Blk K N L (2 * bs) := by
  refine ⟨h.len, fun j hj => ?_⟩
  rcases Nat.lt_or_ge j t with hjt | hjt
  · have hm : 2 * bs * (j + 1) ≤ 2 * bs * t := Nat.mul_le_mul_left _ hjt
    rw [(mul2 bs j).2.2] at hm
    rcases Nat.le_total (2 * bs * j + 2 * bs) N with hc | hc
    · rw [Nat.min_eq_left hc]
      exact h.two j hjt
    · have g := h.two j hjt
      have hl : N = 2 * bs * j + 2 * bs ∨ N < 2 * bs * j + 2 * bs := by omega
      rcases hl with hl | hl
      · rw [hl, Nat.min_self]; exact g
      · exfalso
        have := g.2.length_eq
        rw [nos_length] at this
        unfold seg at this
        rw [List.length_take, List.length_drop, h.len] at this
        omega
  · obtain rfl : j = t := by
      rcases Nat.lt_or_ge t j with hh | hh
      · have hm : 2 * bs * (t + 1) ≤ 2 * bs * j := Nat.mul_le_mul_left _ hh
        rw [(mul2 bs t).2.2] at hm
        omega
      · omega
    have g := h.one (2 * j) (Nat.le_refl _) (by rw [(mul2 bs j).1]; exact hj)
    rw [(mul2 bs j).1, ← ha, show min (a + bs) N = N by omega] at g
    rw [← ha, show min (a + 2 * bs) N = N by omega]
    exact g
theorem Blk.done {K : Int → Int} {N : Nat} {L : List Int} {bs : Nat} (h : Blk K N L bs) (hb : N ≤ bs) : L = ordl K N := by
  rcases Nat.eq_zero_or_pos N with h0 | h0
  · have := h.len
    rw [h0] at this
    rw [List.eq_nil_of_length_eq_zero this, h0]
    have := (ordl_perm K 0).length_eq
    rw [nos_length] at this
    exact (List.eq_nil_of_length_eq_zero this).symm
  · have g := h.blk 0 (by omega)
    rw [Nat.mul_zero, Nat.zero_add, Nat.min_eq_right hb] at g
    exact good_one h.len g
/-- The first t blocks of 20 are in order, the others untouched. -/
structure Firsts (K : Int → Int) (N : Nat) (L : List Int) (t : Nat) : Prop where
  len : L.length = N
  le : 20 * t ≤ N
  blk : ∀ j, j < t → Good K L (20 * j) (20 * j + 20)
  rest : ∀ lo hi, 20 * t ≤ lo → lo ≤ hi → hi ≤ N → seg L lo hi = nos lo (hi - lo)
theorem seg_nos {N lo hi : Nat} (h1 : lo ≤ hi) (h2 : hi ≤ N) : seg (nos 0 N) lo hi = nos lo (hi - lo) := by
  have e : nos 0 N = nos 0 lo ++ nos lo (hi - lo) ++ nos hi (N - hi) := by
    rw [show N = (lo + (hi - lo)) + (N - hi) by omega, nos_add, nos_add]
    congr 2 <;> congr 1 <;> omega
  rw [e]
  exact seg_mid nos_length (by rw [nos_length]; omega)
theorem Firsts.start {K : Int → Int} {N : Nat} : Firsts K N (nos 0 N) 0 := ⟨nos_length, by omega, fun j hj => absurd hj (Nat.not_lt_zero _), fun lo hi _ h1 h2 => seg_nos h1 h2⟩
theorem Firsts.next {K : Int → Int} {N : Nat} {L L' : List Int} {t a b : Nat} (h : Firsts K N L t) (ha : a = 20 * t) (hb : b = a + 20) (hbN : b ≤ N) (p : Put K L L' a b) : Firsts K N L' (t + 1) := by
  refine ⟨p.len.trans h.len, by omega, fun j hj => ?_, fun lo hi h1 h2 h3 => ?_⟩
  · rcases Nat.lt_or_ge j t with hjt | hjt
    · exact p.keep (.inl (by omega)) (h.blk j hjt)
    · obtain rfl : j = t := by omega
      rw [← ha, ← hb]
      exact p.good
  · rw [p.far lo hi (.inr (by omega))]
    exact h.rest lo hi (by omega) h2 h3
theorem Firsts.last {K : Int → Int} {N : Nat} {L L' : List Int} {t a : Nat} (h : Firsts K N L t) (ha : a = 20 * t) (haN : N < a + 20) (p : Put K L L' a N) : Blk K N L' 20 := by
  refine ⟨p.len.trans h.len, fun j hj => ?_⟩
  rcases Nat.lt_or_ge j t with hjt | hjt
  · rw [show min (20 * j + 20) N = 20 * j + 20 by have := h.le; omega]
    exact p.keep (.inl (by omega)) (h.blk j hjt)
  · obtain rfl : j = t := by omega
    rw [← ha, show min (a + 20) N = N by omega]
    exact p.good
#print axioms Firsts.last
#print axioms Half.last
#print axioms Half.stay
end Go.Proofs.Ytfokcaillibajaa.Srt
