/- Raw trees joined: the program's function and the document's, as the print has them, come to one list. Conditions: all lengths together at most 1048576. -/
import Derived.Test.YtmekcllgofeenaaPTreeJoinsx
namespace Go.Proofs.Ytmekcllgofeenaa.JnP
open Go.RowKit Go.Proofs.YtmekcllgofeenaaW.PrintWords Go.Proofs.YtmekcllgofeenaaW.PrintLast Go.Proofs.YtmekcllgofeenaaW.PrintMore
open Go.Proofs.Ytmekcllgofeenaa.PTreeJoins
set_option linter.unusedVariables false
set_option linter.unusedSimpArgs false

theorem w64 {x : Int} (h : -9223372036854775808 ≤ x) (h' : x ≤ 9223372036854775807) : wrap64 x = x := by unfold wrap64; omega
def shift (f : Int) (x : S62) : S62 := if x.f0 ≥ 0 then ⟨wrap64 (x.f0 + f), x.f1⟩ else ⟨x.f0, x.f1⟩
def joinAll : List S62 → List (List S62) → List S62
  | acc, [] => acc
  | acc, r :: rs => joinAll (acc ++ r.map (shift acc.length)) rs
def total (ls : List (List S62)) : Nat := (ls.map List.length).sum
theorem total_cons (r : List S62) (rs : List (List S62)) : total (r :: rs) = r.length + total rs := by simp [total]
theorem shift_pos {f : Int} {x : S62} (c : x.f0 ≥ 0) : shift f x = ⟨wrap64 (x.f0 + f), x.f1⟩ := by unfold shift; rw [if_pos c]
theorem shift_neg {f : Int} {x : S62} (c : ¬ x.f0 ≥ 0) : shift f x = ⟨x.f0, x.f1⟩ := by unfold shift; rw [if_neg c]
theorem joinAll_len : ∀ (ls : List (List S62)) (acc : List S62), (joinAll acc ls).length = acc.length + total ls
  | [], acc => by simp [joinAll, total]
  | r :: rs, acc => by rw [joinAll, joinAll_len rs]; simp [total]; omega
theorem rd_take (r : List S62) (j : Nat) (hj : j < r.length) (f : Int) : (r.take (j + 1)).map (shift f) = (r.take j).map (shift f) ++ [shift f (rd_T62 r (j : Int))] := by
  rw [List.take_succ_eq_append_getElem hj, List.map_append]
  simp [rd_T62, List.getD_eq_getElem?_getD, List.getElem?_eq_getElem hj]
theorem rd_L (ls : List (List S62)) (q : Nat) (hq : q < ls.length) : rd_L2 ls (q : Int) = ls[q] := by
  simp [rd_L2, List.getD_eq_getElem?_getD, List.getElem?_eq_getElem hq]

theorem pj_l1 (ls : List (List S62)) (q : Nat) (n : Int) (acc : List S62) (r : List S62) (res : List S62) (hb : acc.length + r.length ≤ 1048576) (hq : q < 1048577)
    (hr : Ev (fun k => tree_Join.l0 k (acc ++ r.map (shift acc.length)) ls n ((q : Int) + 1)) res) :
    ∀ m j : Nat, j + m = r.length → Ev (fun k => tree_Join.l1 k (acc ++ (r.take j).map (shift acc.length)) (acc.length : Int) ls n (q : Int) r (r.length : Int) (j : Int)) res := by
  intro m
  induction m with
  | zero =>
    intro j hj
    refine Ev.step (f := fun k => tree_Join.l0 k (acc ++ r.map (shift acc.length)) ls n ((q : Int) + 1)) (fun k => ?_) hr
    simp only [tree_Join.l1]
    rw [if_neg (by omega), w64 (by omega) (by omega), List.take_of_length_le (by omega)]
  | succ m ih =>
    intro j hj
    refine Ev.step (f := fun k => tree_Join.l1 k (acc ++ (r.take (j + 1)).map (shift acc.length)) (acc.length : Int) ls n (q : Int) r (r.length : Int) ((j + 1 : Nat) : Int)) (fun k => ?_) (ih (j + 1) (by omega))
    have hlen : (acc ++ (r.take j).map (shift acc.length)).length < 8796093022208 := by simp; omega
    simp only [tree_Join.l1]
    rw [if_pos (by omega), if_pos (by omega), if_pos (by omega), w64 (x := (j : Int) + 1) (by omega) (by omega), rd_take r j (by omega), ← List.append_assoc]
    by_cases c : (rd_T62 r (j : Int)).f0 ≥ 0
    · rw [if_pos c, if_pos hlen, shift_pos c]
      rfl
    · rw [if_neg c, if_pos hlen, shift_neg c]
      rfl

theorem pj_l0 (ls : List (List S62)) (hls : ls.length ≤ 1048576) : ∀ (m q : Nat) (acc : List S62), q + m = ls.length → acc.length + total (ls.drop q) ≤ 1048576 →
    Ev (fun k => tree_Join.l0 k acc ls (ls.length : Int) (q : Int)) (joinAll acc (ls.drop q)) := by
  intro m
  induction m with
  | zero =>
    intro q acc hq _
    rw [List.drop_of_length_le (by omega), joinAll]
    refine Ev.step (f := fun k => some acc) (fun k => ?_) (Ev.now _)
    simp only [tree_Join.l0]
    rw [if_neg (by omega)]
  | succ m ih =>
    intro q acc hq hb
    rw [List.drop_eq_getElem_cons (by omega)] at hb ⊢
    have hb' : acc.length + (ls[q].length + total (ls.drop (q + 1))) ≤ 1048576 := by rw [total_cons] at hb; exact hb
    rw [joinAll]
    refine Ev.step (f := fun k => tree_Join.l1 k (acc ++ (ls[q].take 0).map (shift acc.length)) (acc.length : Int) ls (ls.length : Int) (q : Int) ls[q] (ls[q].length : Int) ((0 : Nat) : Int)) (fun k => ?_)
      (pj_l1 ls q _ acc ls[q] _ (by omega) (by omega) (ih (q + 1) _ (by omega) (by simp; omega)) ls[q].length 0 (by omega))
    simp only [tree_Join.l0]
    rw [if_pos (by omega), if_pos (by omega), if_pos (by omega), rd_L ls q (by omega)]
    simp
theorem prog_join (ls : List (List S62)) (hls : ls.length ≤ 1048576) (ht : total ls ≤ 1048576) : ∃ k, tree_Join.f k ls = some (joinAll [] ls) := by
  have h := pj_l0 ls hls ls.length 0 [] (by omega) (by simpa using ht)
  exact (Ev.congr (f := fun k => tree_Join.l0 k [] ls (ls.length : Int) ((0 : Nat) : Int)) (fun k => by unfold tree_Join.f; rfl) (by simpa using h)).rounds

theorem rj_l1 (ls : List (List S62)) (q : Nat) (hq : q < ls.length) (hls : ls.length ≤ 1048576) (acc : List S62) (res : List S62) (hb : acc.length + ls[q].length ≤ 1048576)
    (hr : Ev (fun k => augurref14_Join.l0 k ls (acc ++ ls[q].map (shift acc.length)) ((q : Int) + 1)) res) :
    ∀ m j : Nat, j + m = ls[q].length → Ev (fun k => augurref14_Join.l1 k ls (acc ++ (ls[q].take j).map (shift acc.length)) (q : Int) (acc.length : Int) (j : Int)) res := by
  intro m
  have hrd := rd_L ls q hq
  induction m with
  | zero =>
    intro j hj
    refine Ev.step (f := fun k => augurref14_Join.l0 k ls (acc ++ ls[q].map (shift acc.length)) ((q : Int) + 1)) (fun k => ?_) hr
    simp only [augurref14_Join.l1]
    rw [hrd, if_pos (by omega), if_pos (by omega), if_neg (by omega), w64 (by omega) (by omega), List.take_of_length_le (by omega)]
  | succ m ih =>
    intro j hj
    refine Ev.step (f := fun k => augurref14_Join.l1 k ls (acc ++ (ls[q].take (j + 1)).map (shift acc.length)) (q : Int) (acc.length : Int) ((j + 1 : Nat) : Int)) (fun k => ?_) (ih (j + 1) (by omega))
    have hlen : (acc ++ (ls[q].take j).map (shift acc.length)).length < 8796093022208 := by simp; omega
    simp only [augurref14_Join.l1]
    rw [hrd, if_pos (by omega), if_pos (by omega), if_pos (by omega), if_pos (by omega), w64 (x := (j : Int) + 1) (by omega) (by omega), rd_take ls[q] j (by omega), ← List.append_assoc]
    by_cases c : (rd_T62 ls[q] (j : Int)).f0 ≥ 0
    · rw [if_pos c, if_pos hlen, shift_pos c]
      rfl
    · rw [if_neg c, if_pos hlen, shift_neg c]
      rfl
theorem rj_l0 (ls : List (List S62)) (hls : ls.length ≤ 1048576) : ∀ (m q : Nat) (acc : List S62), q + m = ls.length → acc.length + total (ls.drop q) ≤ 1048576 →
    Ev (fun k => augurref14_Join.l0 k ls acc (q : Int)) (joinAll acc (ls.drop q)) := by
  intro m
  induction m with
  | zero =>
    intro q acc hq _
    rw [List.drop_of_length_le (by omega), joinAll]
    refine Ev.step (f := fun k => some acc) (fun k => ?_) (Ev.now _)
    simp only [augurref14_Join.l0]
    rw [if_neg (by omega)]
  | succ m ih =>
    intro q acc hq hb
    rw [List.drop_eq_getElem_cons (by omega)] at hb ⊢
    have hb' : acc.length + (ls[q].length + total (ls.drop (q + 1))) ≤ 1048576 := by rw [total_cons] at hb; exact hb
    rw [joinAll]
    refine Ev.step (f := fun k => augurref14_Join.l1 k ls (acc ++ (ls[q].take 0).map (shift acc.length)) (q : Int) (acc.length : Int) ((0 : Nat) : Int)) (fun k => ?_)
      (rj_l1 ls q (by omega) hls acc _ (by omega) (ih (q + 1) _ (by omega) (by simp; omega)) ls[q].length 0 (by omega))
    simp only [augurref14_Join.l0]
    rw [if_pos (by omega)]
    simp
theorem ref_join (ls : List (List S62)) (hls : ls.length ≤ 1048576) (ht : total ls ≤ 1048576) : ∃ k, augurref14_Join.f k ls = some (joinAll [] ls) := by
  have h := rj_l0 ls hls ls.length 0 [] (by omega) (by simpa using ht)
  exact (Ev.congr (f := fun k => augurref14_Join.l0 k ls [] ((0 : Nat) : Int)) (fun k => by unfold augurref14_Join.f; rfl) (by simpa using h)).rounds

theorem eq_loop (l : List S62) (hl : l.length ≤ 8796093022208) : ∀ n i : Nat, i + n = l.length → Ev (fun k => augurref00_EqRaw.l0 k l l (i : Int)) true := by
  intro n
  induction n with
  | zero =>
    intro i hi
    refine Ev.step (f := fun k => some true) (fun k => ?_) (Ev.now _)
    simp only [augurref00_EqRaw.l0]
    rw [if_neg (by omega)]
  | succ n ih =>
    intro i hi
    refine Ev.step (f := fun k => augurref00_EqRaw.l0 k l l ((i + 1 : Nat) : Int)) (fun k => ?_) (ih (i + 1) (by omega))
    simp only [augurref00_EqRaw.l0]
    rw [if_pos (by omega), if_pos (by omega), if_pos (by omega), w64 (by omega) (by omega), if_neg (by simp)]
    rfl
theorem eq_self (l : List S62) (hl : l.length ≤ 8796093022208) : ∃ k, augurref00_EqRaw.f k l l = some true :=
  (Ev.congr (f := fun k => augurref00_EqRaw.l0 k l l ((0 : Nat) : Int)) (fun k => by unfold augurref00_EqRaw.f; rw [if_pos rfl]; rfl) (eq_loop l hl l.length 0 (by omega))).rounds
theorem copy_loop (l : List S62) (hl : l.length ≤ 1048576) : ∀ n i : Nat, i + n = l.length → Ev (fun k => augurref00_CopyRaw.l0 k l (l.take i) (i : Int)) l := by
  intro n
  induction n with
  | zero =>
    intro i hi
    refine Ev.step (f := fun k => some l) (fun k => ?_) (Ev.now _)
    simp only [augurref00_CopyRaw.l0]
    rw [if_neg (by omega), List.take_of_length_le (by omega)]
  | succ n ih =>
    intro i hi
    refine Ev.step (f := fun k => augurref00_CopyRaw.l0 k l (l.take (i + 1)) ((i + 1 : Nat) : Int)) (fun k => ?_) (ih (i + 1) (by omega))
    have e : l.take (i + 1) = l.take i ++ [rd_T62 l (i : Int)] := by
      rw [List.take_succ_eq_append_getElem (by omega)]
      simp [rd_T62, List.getD_eq_getElem?_getD, List.getElem?_eq_getElem (show i < l.length by omega)]
    simp only [augurref00_CopyRaw.l0]
    rw [if_pos (by omega), if_pos (by omega), if_pos (by rw [List.length_take]; omega), w64 (by omega) (by omega), e]
    rfl
theorem copy_is (l : List S62) (hl : l.length ≤ 1048576) : ∃ k, augurref00_CopyRaw.f k l = some l :=
  (Ev.congr (f := fun k => augurref00_CopyRaw.l0 k l (l.take 0) ((0 : Nat) : Int)) (fun k => by unfold augurref00_CopyRaw.f; rfl) (copy_loop l hl l.length 0 (by omega))).rounds
#print axioms prog_join
#print axioms ref_join
end Go.Proofs.Ytmekcllgofeenaa.JnP
