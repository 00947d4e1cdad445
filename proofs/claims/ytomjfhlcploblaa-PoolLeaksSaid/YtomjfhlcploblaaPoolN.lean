/- A row of notes: one of them set. Conditions: none. -/
import Derived.Test.YtomjfhlcploblaaPoolP
namespace Go.Proofs.Ytomjfhlcploblaa.Pool
open Go.RowKit Go.Proofs.YtomjfhlcploblaaW.PrintWords
set_option linter.unusedVariables false
set_option linter.unusedSimpArgs false

theorem set4_get {α : Type} (cur : Array α) (o : Nat) (a b c d : α) (h : o + 4 ≤ cur.size) (i : Nat) :
    ((((cur.setIfInBounds o a).setIfInBounds (o + 1) b).setIfInBounds (o + 2) c).setIfInBounds (o + 3) d)[i]? = if o ≤ i ∧ i < o + 4 then [a, b, c, d][i - o]? else cur[i]? := by
  simp only [Array.getElem?_setIfInBounds, Array.size_setIfInBounds]
  by_cases h0 : i = o
  · subst h0
    rw [if_neg (by omega), if_neg (by omega), if_neg (by omega), if_pos rfl, if_pos (by omega), if_pos (by omega)]
    simp
  · by_cases h1 : i = o + 1
    · subst h1
      rw [if_neg (by omega), if_neg (by omega), if_pos rfl, if_pos (by omega), if_pos (by omega)]
      simp
    · by_cases h2 : i = o + 2
      · subst h2
        rw [if_neg (by omega), if_pos rfl, if_pos (by omega), if_pos (by omega)]
        simp
      · by_cases h3 : i = o + 3
        · subst h3
          rw [if_pos rfl, if_pos (by omega), if_pos (by omega)]
          simp
        · rw [if_neg (by omega), if_neg (by omega), if_neg (by omega), if_neg (by omega), if_neg (by omega)]
def set4 (w : World) (g o : Nat) (a b c d : Value) : World := (((w.setCell ⟨g, o, none⟩ a).setCell ⟨g, o + 1, none⟩ b).setCell ⟨g, o + 2, none⟩ c).setCell ⟨g, o + 3, none⟩ d
theorem set4_ap (w : World) (g o : Nat) (a b c d : Value) : Ap (fun k => k = g) w (set4 w g o a b c d) :=
  ((((Ap.refl (fun k => k = g) w).setCell (.inl rfl) _).setCell (.inl rfl) _).setCell (.inl rfl) _).setCell (.inl rfl) _
theorem R_set4 {e : Nat} {w : World} {base g n c : Nat} {ok : Nat → Prop} {xs : List N4} (h : Kd.R kN e w base ok (.slice (some ⟨g, 0, none⟩) n c) xs) {t : Nat} (ht : t < xs.length) {x : N4} {va vb vc vd : Value}
    (hx : kN.M w base (fun k => ok k ∧ some k ≠ some g) x [va, vb, vc, vd]) : Kd.R kN e (set4 w g (t * 4) va vb vc vd) base ok (.slice (some ⟨g, 0, none⟩) n c) (xs.set t x) := by
  obtain ⟨h0, inner, ho, hr⟩ := h
  obtain ⟨hil, hcase⟩ := ho
  have hsz : kN.sz = 4 := rfl
  rcases hcase with ⟨he, _⟩ | ⟨g', cap, cur, he, hb, hh, hn, hm, hcs, htk⟩
  · cases he
  · injection he with e1 e2 e3
    injection e1 with e1
    injection e1 with e1
    subst e1
    rw [hsz] at hil hcs htk
    have hfit : t * 4 + 4 ≤ cur.size := by rw [hcs]; omega
    have hh' := blk_set (blk_set (blk_set (blk_set hh (t * 4) va) (t * 4 + 1) vb) (t * 4 + 2) vc) (t * 4 + 3) vd
    have hif : t * 4 + [va, vb, vc, vd].length ≤ inner.length := by rw [hil]; simp; omega
    refine ⟨h0, splice inner (t * 4) [va, vb, vc, vd], ⟨?_, .inr ⟨g, cap, _, by rw [e2, e3, List.length_set], hb, hh', by rw [List.length_set]; exact hn, hm, by simp [hcs, hsz], ?_⟩⟩, ?_, ?_⟩
    · rw [length_splice _ _ _ hif, hil, hsz, List.length_set]
    · rw [hsz, List.length_set]
      apply List.ext_getElem?
      intro i
      rw [List.getElem?_take, splice_get hif, Array.getElem?_toList, set4_get cur (t * 4) va vb vc vd hfit]
      by_cases hi : i < xs.length * 4
      · rw [if_pos hi]
        simp only [List.length_cons, List.length_nil]
        by_cases hi2 : t * 4 ≤ i ∧ i < t * 4 + 4
        · rw [if_pos hi2, if_pos hi2]
        · rw [if_neg hi2, if_neg hi2, ← htk, List.getElem?_take, if_pos hi, Array.getElem?_toList]
      · rw [if_neg hi, if_neg (by simp only [List.length_cons, List.length_nil]; omega), List.getElem?_eq_none (by rw [hil]; omega)]
    · rw [length_splice _ _ _ hif, hil, hsz, List.length_set]
    · intro j p hj
      rw [hsz]
      have hjl : j < xs.length := by
        have := (List.getElem?_eq_some_iff.1 hj).1
        simpa using this
      have mv : ∀ {y : N4} {cs : List Value}, kN.M w base (fun k => ok k ∧ some k ≠ some g) y cs → kN.M (set4 w g (t * 4) va vb vc vd) base (fun k => ok k ∧ some k ≠ some g) y cs := fun hy =>
        kN.M_mono (fun k hk => hk.1) (kN.M_move (ok := fun k => (ok k ∧ some k ≠ some g) ∧ k < w.heap.size) (fun k hk => (set4_ap w g (t * 4) va vb vc vd).block k hk.2 (fun e => hk.1.2 (by rw [e]))) (kN.M_mono (fun k hk => ⟨hk.1, hk.2.2.1⟩) (kN.M_bound hy)))
      rw [List.getElem?_set] at hj
      by_cases htj : t = j
      · subst htj
        rw [if_pos rfl, if_pos ht] at hj
        cases hj
        have e : ((splice inner (t * 4) [va, vb, vc, vd]).drop (t * 4)).take 4 = [va, vb, vc, vd] := by
          apply List.ext_getElem?
          intro i
          rw [List.getElem?_take, List.getElem?_drop, splice_get hif]
          by_cases hi : i < 4
          · rw [if_pos hi, if_pos (by simp only [List.length_cons, List.length_nil]; omega)]
            congr 1
            omega
          · rw [if_neg hi, List.getElem?_eq_none (by simp; omega)]
        rw [e]
        exact mv hx
      · rw [if_neg htj] at hj
        have e : ((splice inner (t * 4) [va, vb, vc, vd]).drop (j * 4)).take 4 = (inner.drop (j * 4)).take 4 := by
          apply List.ext_getElem?
          intro i
          rw [List.getElem?_take, List.getElem?_take, List.getElem?_drop, List.getElem?_drop, splice_get hif]
          by_cases hi : i < 4
          · rw [if_pos hi, if_pos hi, if_neg (by simp only [List.length_cons, List.length_nil]; omega)]
          · rw [if_neg hi, if_neg hi]
        rw [e]
        have := hr.2 j p hj
        rw [hsz] at this
        exact mv this
/-- A row of notes beyond the pool, while the pool turns. -/
theorem R_ap {α : Type} {d : Kd α} {e : Nat} {w w' : World} {base : Nat} {own : Nat → Prop} {v : Value} {xs : List α} (ha : Ap own w w') (h : d.R e w base (fun _ => True) v xs) (hn : ∀ k, own k → k < base) : d.R e w' base (fun _ => True) v xs :=
  Kd.R_mono (ha.R (Kd.R_mono (Kd.R_bound h) (fun k hk => hk.2.1)) (fun k hk ho => by have := hn k ho; omega)) (fun _ _ => trivial)
#print axioms R_set4
end Go.Proofs.Ytomjfhlcploblaa.Pool
