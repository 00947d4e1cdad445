/- A cache of texts of one block each, plainly: what is kept, found and given up. Conditions: none. -/
import Derived.Test.YtomjfhlcploblaaPfxO
namespace Go.Proofs.Ytomjfhlcploblaa.Pfx
open Go.RowKit Go.Proofs.YtomjfhlcploblaaW.PrintWords Go.Proofs.YtomjfhlcploblaaW.PrintMore Go.Proofs.Ytomjfhlcploblaa.Pool Go.Proofs.Ytomjfhlcploblaa.MapsV
set_option linter.unusedVariables false
set_option linter.unusedSimpArgs false

theorem gset {l : List Int} {j : Nat} (hj : j < l.length) (t : Int) (k : Nat) : (l.set j t).getD k 0 = if k = j then t else l.getD k 0 := by
  by_cases h : k = j
  · subst h
    simp [List.getD_eq_getElem?_getD, hj]
  · simp [List.getD_eq_getElem?_getD, List.getElem?_set, h, Ne.symm h]
theorem gsetN {l : List Nat} {j : Nat} (hj : j < l.length) (t : Nat) (k : Nat) : (l.set j t).getD k 0 = if k = j then t else l.getD k 0 := by
  by_cases h : k = j
  · subst h
    simp [List.getD_eq_getElem?_getD, hj]
  · simp [List.getD_eq_getElem?_getD, List.getElem?_set, h, Ne.symm h]
def tkn (sz : Nat) (x : Int) : List Int := pad (List.replicate sz x)
theorem tkn_inj {sz : Nat} (h : 1 ≤ sz) {x y : Int} (e : tkn sz x = tkn sz y) : x = y := by
  obtain ⟨k, rfl⟩ : ∃ k, sz = k + 1 := ⟨sz - 1, by omega⟩
  unfold tkn pad at e
  rw [List.replicate_succ, List.replicate_succ, List.cons_append, List.cons_append] at e
  exact (List.cons.inj e).1
/-- The node of text j. -/
def ndO (sz : Nat) (us : List Int) (j : Nat) : Nd := ⟨0, tkn sz j, j + 1, j, 0, us.getD j 0 + 1⟩
theorem ndO_set (sz : Nat) (us : List Int) {j k : Nat} (hj : j < us.length) (h : k ≠ j) (t : Int) : ndO sz (us.set j t) k = ndO sz us k := by
  unfold ndO
  rw [gset hj, if_neg h]
theorem ndO_use (sz : Nat) (us : List Int) {j : Nat} (hj : j < us.length) (k : Nat) (t : Int) : useF [((j : Int) + 1)] (t + 1) (ndO sz us k) = ndO sz (us.set j t) k := by
  by_cases h : k = j
  · subst h
    simp [useF, ndO, hj]
  · have h1 : ¬ (k : Int) = j := by omega
    rw [ndO_set sz us hj h]
    unfold useF
    rw [if_neg]
    show ¬ (k : Int) + 1 ∈ [(j : Int) + 1]
    simp [h1]
theorem ndO_kid (sz : Nat) (us : List Int) (k : Nat) (c : Int) : kidF 0 c (ndO sz us k) = ndO sz us k := by
  have h1 : ¬ (k : Int) + 1 = 0 := by omega
  simp [kidF, ndO, h1]
/-- So many texts have been kept (text j with block j); the numbers of their last uses (below 0: given up); so many are there. -/
structure OInv (sz : Nat) (us : List Int) (i m : Nat) (C : Cs) (S : Pl) : Prop where
  mem : ∀ q ∈ C.N, ∃ j, j < i ∧ 0 ≤ us.getD j 0 ∧ q.1 = ndO sz us j
  all : ∀ j, j < i → 0 ≤ us.getD j 0 → ∃ q ∈ C.N, q.1 = ndO sz us j
  dist : ∀ j k, j < i → k < i → 0 ≤ us.getD j 0 → us.getD j 0 = us.getD k 0 → j = k
  il : i ≤ us.length
  i2 : i ≤ 200
  last : C.last = i
  num : C.N.length = m
  mi : m ≤ i
  ok : S.Ok
  SN : S.N = 200
  cs : ∀ j, j < 200 → S.cs.getD j 0 = if j < i ∧ 0 ≤ us.getD j 0 then 1 else 0
section
variable {sz i m : Nat} {us : List Int} {C : Cs} {S : Pl}
theorem OInv.nx_live (h : OInv sz us i m C S) (hs : 1 ≤ sz) {j : Nat} (hj : j < i) (hl : 0 ≤ us.getD j 0) : ∃ q ∈ C.N, nx C.N 0 (List.replicate sz (j : Int)) = some q ∧ q.1 = ndO sz us j := by
  cases hq : nx C.N 0 (List.replicate sz (j : Int)) with
  | some q =>
    obtain ⟨hm, h1, h2⟩ := nx_some hq
    obtain ⟨k, hk, _, e⟩ := h.mem q hm
    have e1 : q.1.toks = tkn sz k := by rw [e]; rfl
    have : (k : Int) = j := tkn_inj hs (by rw [← e1, h2]; rfl)
    have : k = j := by omega
    subst this
    exact ⟨q, hm, rfl, e⟩
  | none =>
    obtain ⟨q, hm, e⟩ := h.all j hj hl
    have := List.find?_eq_none.1 hq q hm
    simp [e, ndO, tkn] at this
theorem OInv.nx_dead (h : OInv sz us i m C S) (hs : 1 ≤ sz) {x : Nat} (hx : ∀ j, j < i → 0 ≤ us.getD j 0 → j ≠ x) : nx C.N 0 (List.replicate sz (x : Int)) = none := by
  cases hq : nx C.N 0 (List.replicate sz (x : Int)) with
  | none => rfl
  | some q =>
    obtain ⟨hm, h1, h2⟩ := nx_some hq
    obtain ⟨k, hk, hl, e⟩ := h.mem q hm
    have e1 : q.1.toks = tkn sz k := by rw [e]; rfl
    have : (k : Int) = x := tkn_inj hs (by rw [← e1, h2]; rfl)
    exact absurd (by omega) (hx k hk hl)
theorem found_some (hs : 1 ≤ sz) {x : Int} {q : Nd × Nat} (hq : nx C.N 0 (List.replicate sz x) = some q) : found C sz (List.replicate sz x) = [q] := by
  obtain ⟨k, rfl⟩ : ∃ k, sz = k + 1 := ⟨sz - 1, by omega⟩
  unfold found
  rw [List.length_replicate, way_some (by simp) (by rw [List.take_of_length_le (by simp)]; exact hq), List.drop_of_length_le (by simp), way_short (by simp)]
theorem found_none (hs : 1 ≤ sz) {x : Int} (hq : nx C.N 0 (List.replicate sz x) = none) : found C sz (List.replicate sz x) = [] := by
  obtain ⟨k, rfl⟩ : ∃ k, sz = k + 1 := ⟨sz - 1, by omega⟩
  unfold found
  rw [List.length_replicate, way_none (by simp) (by rw [List.take_of_length_le (by simp)]; exact hq)]
theorem OInv.used (h : OInv sz us i m C S) {j : Nat} {q : Nd × Nat} {t : Int} (hj : j < i) (hjl0 : 0 ≤ us.getD j 0) (hq : q.1 = ndO sz us j) (ht : C.now = t) (hlt : ∀ k, k < i → us.getD k 0 < t) (h0 : 0 ≤ t) : OInv sz (us.set j t) i m (C.used [q]) S := by
  have hjl : j < us.length := Nat.lt_of_lt_of_le hj h.il
  have hn : q.1.name = (j : Int) + 1 := by rw [hq]; rfl
  have hN : (C.used [q]).N = upd (useF [(j : Int) + 1] (t + 1)) C.N := by
    show upd (useF [q.1.name] (C.now + 1)) C.N = _
    rw [hn, ht]
  refine ⟨fun r hr => ?_, fun k hk hl => ?_, fun a b ha hb hl e => ?_, by rw [List.length_set]; exact h.il, h.i2, h.last, ?_, h.mi, h.ok, h.SN, fun k hk => ?_⟩
  · rw [hN] at hr
    obtain ⟨r0, hr0, rfl⟩ := List.mem_map.1 hr
    obtain ⟨k, hk, hl, e⟩ := h.mem r0 hr0
    refine ⟨k, hk, ?_, ?_⟩
    · rw [gset hjl]
      split
      · exact h0
      · exact hl
    · show useF _ _ r0.1 = _
      rw [e, ndO_use sz us hjl]
  · have hl2 : k = j ∨ 0 ≤ us.getD k 0 := by
      rw [gset hjl] at hl
      by_cases e : k = j
      · exact .inl e
      · rw [if_neg e] at hl
        exact .inr hl
    rcases hl2 with rfl | hl2
    · by_cases hl3 : 0 ≤ us.getD k 0
      · obtain ⟨r, hr, e⟩ := h.all k hk hl3
        refine ⟨(useF [(k : Int) + 1] (t + 1) r.1, r.2), ?_, ?_⟩
        · rw [hN]
          exact List.mem_map.2 ⟨r, hr, rfl⟩
        · show useF _ _ r.1 = _
          rw [e, ndO_use sz us hjl]
      · exact absurd hjl0 hl3
    · obtain ⟨r, hr, e⟩ := h.all k hk hl2
      refine ⟨(useF [(j : Int) + 1] (t + 1) r.1, r.2), ?_, ?_⟩
      · rw [hN]
        exact List.mem_map.2 ⟨r, hr, rfl⟩
      · show useF _ _ r.1 = _
        rw [e, ndO_use sz us hjl]
  · rw [gset hjl] at hl e
    rw [gset hjl] at e
    have ha2 := hlt a ha
    have hb2 := hlt b hb
    by_cases e1 : a = j <;> by_cases e2 : b = j <;> simp only [e1, e2, if_true, if_false] at e hl ⊢
    · omega
    · omega
    · exact h.dist a b ha hb hl e
  · rw [hN]
    unfold upd
    rw [List.length_map]
    exact h.num
  · rw [h.cs k hk, gset hjl]
    by_cases e : k = j
    · rw [if_pos e, e, if_pos ⟨hj, hjl0⟩, if_pos ⟨hj, h0⟩]
    · rw [if_neg e]
theorem Pl.hold_is {S : Pl} {b : Nat} (hb : b < S.N) (h : S.cs.getD b 0 ≠ 0) : S.holdS b = S.setC b (S.cs.getD b 0 + 1) := by
  unfold Pl.holdS Pl.heldE
  have e : ((b : Nat) : Int).toNat = b := rfl
  rw [e, if_neg (show ¬ ((b : Int) < 0 ∨ (S.N : Int) ≤ b ∨ S.cs.getD b 0 = 0) by omega), if_pos rfl]
theorem Pl.drop_is {S : Pl} {b : Nat} (hb : b < S.N) (h : S.cs.getD b 0 ≠ 0) : S.dropS b = S.setC b (S.cs.getD b 0 - 1) := by
  unfold Pl.dropS Pl.heldE
  have e : ((b : Nat) : Int).toNat = b := rfl
  rw [e, if_neg (show ¬ ((b : Int) < 0 ∨ (S.N : Int) ≤ b ∨ S.cs.getD b 0 = 0) by omega), if_pos rfl]
theorem chunk_one {sz : Nat} {x : Int} : chunk sz (List.replicate sz x) 0 = List.replicate sz x := by
  unfold chunk
  simp
/-- What is kept behind one more text. -/
theorem OInv.kept (h : OInv sz us i i C S) (hs : 1 ≤ sz) (hi : i < us.length) (hi2 : i < 200) (hn : C.now = i) (hlv : ∀ k, k < i → 0 ≤ us.getD k 0 ∧ us.getD k 0 < i) {at_ : Int} {C' : Cs} {S' : Pl} (hk : KS sz (List.replicate sz (i : Int)) [(i : Int)] C (S.takeS i) 1 at_ C' S') (hok : S'.Ok) :
    OInv sz (us.set i i) (i + 1) (i + 1) C' (S'.dropS i) ∧ C'.now = i + 1 := by
  have hN : i < (S.takeS i).N := by
    show i < S.N
    rw [h.SN]
    exact hi2
  have hcl : S.cs.length = 200 := h.ok.cl.trans h.SN
  have hc1 : (S.takeS i).cs.getD i 0 = 1 := by
    show (S.cs.set i 1).getD i 0 = 1
    rw [gsetN (by omega), if_pos rfl]
  obtain ⟨g, rfl, rfl⟩ : ∃ g, C' = (⟨C.N, C.last, C.now + 1⟩ : Cs).grow 0 (tkn sz i) i g ∧ S' = (S.takeS i).holdS i := by
    cases hk with
    | hit hk hq =>
      cases hk with
      | start =>
        rw [chunk_one] at hq
        exact absurd hq (by
          show nx C.N 0 _ ≠ _
          rw [h.nx_dead hs (fun j hj _ => by omega)]
          simp)
    | @new _ _ _ _ g hk hq =>
      cases hk with
      | start =>
        refine ⟨g, ?_, rfl⟩
        rw [chunk_one]
        rfl
  have hold := Pl.hold_is hN (by rw [hc1]; decide)
  rw [hc1] at hold
  have hh1 : ((S.takeS i).holdS i).cs.getD i 0 = 2 := by
    rw [hold]
    show (((S.takeS i).cs).set i 2).getD i 0 = 2
    rw [gsetN (by show i < (S.cs.set i 1).length; rw [List.length_set]; omega), if_pos rfl]
  have hN2 : i < ((S.takeS i).holdS i).N := by
    rw [hold]
    exact hN
  have hdr := Pl.drop_is hN2 (by rw [hh1]; decide)
  rw [hh1] at hdr
  have hdok : (((S.takeS i).holdS i).dropS i).Ok := by
    rw [hdr]
    exact Pl.setC_ok hok _ _ (by decide)
  have hcs : (((S.takeS i).holdS i).dropS i).cs = ((S.cs.set i 1).set i 2).set i 1 := by
    rw [hdr, hold]
    rfl
  have hSN : (((S.takeS i).holdS i).dropS i).N = 200 := by
    rw [hdr, hold]
    exact h.SN
  have hG : ((⟨C.N, C.last, C.now + 1⟩ : Cs).grow 0 (tkn sz i) i g).N = C.N.map (fun q => (useF [(i : Int) + 1] ((i : Int) + 1) (kidF 0 1 q.1), q.2)) ++ [(ndO sz (us.set i i) i, g)] := by
    show upd (useF [C.last + 1] (C.now + 1)) (upd (kidF 0 1) (C.N ++ [(⟨0, tkn sz i, C.last + 1, i, 0, 0⟩, g)])) = _
    rw [h.last, hn]
    unfold upd
    rw [List.map_append, List.map_append, List.map_map]
    congr 1
    have h1 : ¬ (i : Int) + 1 = 0 := by omega
    simp only [List.map_cons, List.map_nil]
    unfold kidF
    rw [if_neg h1]
    unfold useF
    rw [if_pos (List.mem_singleton.2 rfl)]
    unfold ndO
    rw [gset hi, if_pos rfl]
  have hup : ∀ k, k < i → useF [(i : Int) + 1] ((i : Int) + 1) (kidF 0 1 (ndO sz us k)) = ndO sz (us.set i i) k := fun k hk => by
    rw [ndO_kid, ndO_use sz us hi k]
  refine ⟨⟨fun r hr => ?_, fun k hk hl => ?_, fun a b ha hb hl e => ?_, by rw [List.length_set]; omega, by omega, ?_, ?_, Nat.le_refl _, hdok, hSN, fun k hk => ?_⟩, ?_⟩
  · rw [hG] at hr
    rcases List.mem_append.1 hr with hr | hr
    · obtain ⟨r0, hr0, rfl⟩ := List.mem_map.1 hr
      obtain ⟨k, hk, hl, e⟩ := h.mem r0 hr0
      refine ⟨k, by omega, ?_, ?_⟩
      · rw [gset hi, if_neg (by omega)]
        exact hl
      · show useF _ _ (kidF 0 1 r0.1) = _
        rw [e, hup k hk]
    · rw [List.mem_singleton] at hr
      subst hr
      refine ⟨i, by omega, ?_, rfl⟩
      rw [gset hi, if_pos rfl]
      omega
  · by_cases e : k = i
    · subst e
      exact ⟨(ndO sz (us.set k k) k, g), by rw [hG]; exact List.mem_append_right _ (List.mem_singleton.2 rfl), rfl⟩
    · obtain ⟨r, hr, e2⟩ := h.all k (by omega) (hlv k (by omega)).1
      refine ⟨(useF [(i : Int) + 1] ((i : Int) + 1) (kidF 0 1 r.1), r.2), ?_, ?_⟩
      · rw [hG]
        exact List.mem_append_left _ (List.mem_map.2 ⟨r, hr, rfl⟩)
      · show useF _ _ (kidF 0 1 r.1) = _
        rw [e2, hup k (by omega)]
  · rw [gset hi, gset hi] at e
    by_cases e1 : a = i
    · by_cases e2 : b = i
      · omega
      · rw [if_pos e1, if_neg e2] at e
        have := hlv b (by omega)
        omega
    · by_cases e2 : b = i
      · rw [if_neg e1, if_pos e2] at e
        have := hlv a (by omega)
        omega
      · rw [if_neg e1, if_neg e2] at e
        exact h.dist a b (by omega) (by omega) (hlv a (by omega)).1 e
  · show C.last + 1 = _
    rw [h.last]
    omega
  · rw [hG]
    simp [h.num]
  · rw [hcs]
    rw [gsetN (by rw [List.length_set, List.length_set]; omega), gsetN (by rw [List.length_set]; omega), gsetN (by omega), gset hi]
    by_cases e : k = i
    · rw [if_pos e, if_pos e, if_pos ⟨by omega, by omega⟩]
    · rw [if_neg e, if_neg e, if_neg e, if_neg e, h.cs k hk]
      by_cases hk2 : k < i
      · rw [if_pos ⟨hk2, (hlv k hk2).1⟩, if_pos ⟨by omega, (hlv k hk2).1⟩]
      · rw [if_neg (fun h => hk2 h.1), if_neg (fun h => by have := h.1; omega)]
  · show C.now + 1 = _
    rw [hn]
def Best (us : List Int) (i old : Nat) : Prop := ∀ j, j < i → 0 ≤ us.getD j 0 → 0 ≤ us.getD old 0 ∧ us.getD old 0 ≤ us.getD j 0
theorem Best.take {us : List Int} {i old : Nat} (h : Best us i old) (h1 : 0 ≤ us.getD i 0) (h2 : us.getD old 0 < 0 ∨ us.getD i 0 < us.getD old 0) : Best us (i + 1) i := by
  intro j hj hl
  by_cases e : j = i
  · subst e
    exact ⟨h1, Int.le_refl _⟩
  · have := h j (by omega) hl
    omega
theorem Best.keep {us : List Int} {i old : Nat} (h : Best us i old) (h1 : us.getD i 0 < 0 ∨ (0 ≤ us.getD old 0 ∧ us.getD old 0 ≤ us.getD i 0)) : Best us (i + 1) old := by
  intro j hj hl
  by_cases e : j = i
  · subst e
    omega
  · exact h j (by omega) hl
/-- The least lately used one goes. -/
theorem OInv.shr (h : OInv sz us i (m + 1) C S) {old : Nat} (ho : old < i) (hb : Best us i old) (hnd : (C.N.map fun q => q.1.name).Nodup) {k : Nat} {C' : Cs} {S' : Pl} (hs : Steps k C S C' S') (h1 : (k : Int) ≤ 1 ∨ k = 0) (h2 : (k : Int) < 1 → IsOld C'.N S' none) (hok : S'.Ok) :
    k = 1 ∧ OInv sz (us.set old (-1)) i m C' S' ∧ C'.now = C.now := by
  have hcand : ∀ q ∈ C.N, Cand S q := fun q hq => by
    obtain ⟨j, hj, hl, e⟩ := h.mem q hq
    refine ⟨by rw [e]; rfl, ?_⟩
    rw [e]
    show S.countE (j : Int) = 1
    unfold Pl.countE
    rw [if_neg (by omega)]
    show ((S.cs.getD j 0 : Nat) : Int) = 1
    rw [h.cs j (by have := h.i2; omega), if_pos ⟨hj, hl⟩]
    rfl
  have hk : k = 0 ∨ k = 1 := by omega
  rcases hk with rfl | rfl
  · obtain ⟨rfl, rfl⟩ := hs
    exfalso
    have hn := h.num
    cases hN : C'.N with
    | nil =>
      rw [hN] at hn
      cases hn
    | cons q N =>
      have hq : q ∈ C'.N := by rw [hN]; exact List.mem_cons_self
      exact h2 (by decide) q hq (hcand q hq)
  · obtain ⟨C1', S1, ⟨rfl, rfl⟩, q, hq, rfl, rfl⟩ := hs
    obtain ⟨hqm, _, hqo⟩ := hq
    obtain ⟨j, hj, hl, e⟩ := h.mem q hqm
    have hbj := hb j hj hl
    obtain ⟨p, hp, ep⟩ := h.all old ho hbj.1
    have hle := hqo p hp (hcand p hp)
    rw [e, ep] at hle
    have hle : us.getD j 0 + 1 ≤ us.getD old 0 + 1 := hle
    have hjo : j = old := h.dist j old hj ho hl (by omega)
    subst hjo
    have hjl : j < us.length := Nat.lt_of_lt_of_le hj h.il
    have hq1 : q.1.name = (j : Int) + 1 := by rw [e]; rfl
    have hq2 : q.1.up = 0 := by rw [e]; rfl
    have hq3 : q.1.block = (j : Int) := by rw [e]; rfl
    have hcl : S1.cs.length = 200 := h.ok.cl.trans h.SN
    have h200 : j < 200 := by have := h.i2; omega
    have hdr : S1.dropS q.1.block = S1.setC j 0 := by
      rw [hq3, Pl.drop_is (by rw [h.SN]; exact h200) (by rw [h.cs j h200, if_pos ⟨hj, hl⟩]; decide), h.cs j h200, if_pos ⟨hj, hl⟩]
    have hDN : (C1'.del q).N = upd (kidF 0 (-1)) (without C1'.N ((j : Int) + 1)) := by
      unfold Cs.del
      rw [hq1, hq2]
    refine ⟨rfl, ⟨fun r hr => ?_, fun k hk hl2 => ?_, fun a b ha hb2 hl2 e2 => ?_, by rw [List.length_set]; exact h.il, h.i2, h.last, ?_, by have := h.mi; omega, hok, ?_, fun k hk => ?_⟩, rfl⟩
    · rw [hDN] at hr
      obtain ⟨r0, hr0, rfl⟩ := List.mem_map.1 hr
      obtain ⟨hr1, hr2⟩ := mem_without.1 hr0
      obtain ⟨k, hk, hl3, e3⟩ := h.mem r0 hr1
      have hkj : k ≠ j := by
        rintro rfl
        exact hr2 (by rw [e3]; rfl)
      refine ⟨k, hk, ?_, ?_⟩
      · rw [gset hjl, if_neg hkj]
        exact hl3
      · show kidF 0 (-1) r0.1 = _
        rw [e3, ndO_kid, ndO_set sz us hjl hkj]
    · rw [gset hjl] at hl2
      have hkj : k ≠ j := fun e => by
        rw [if_pos e] at hl2
        omega
      rw [if_neg hkj] at hl2
      obtain ⟨r, hr, e3⟩ := h.all k hk hl2
      refine ⟨(kidF 0 (-1) r.1, r.2), ?_, ?_⟩
      · rw [hDN]
        refine List.mem_map.2 ⟨r, mem_without.2 ⟨hr, ?_⟩, rfl⟩
        rw [e3]
        show ¬ (k : Int) + 1 = (j : Int) + 1
        omega
      · show kidF 0 (-1) r.1 = _
        rw [e3, ndO_kid, ndO_set sz us hjl hkj]
    · rw [gset hjl] at hl2 e2
      rw [gset hjl] at e2
      have hne : a ≠ j := fun e => by
        rw [if_pos e] at hl2
        omega
      rw [if_neg hne] at hl2 e2
      have hne2 : b ≠ j := fun e => by
        rw [if_pos e] at e2
        omega
      rw [if_neg hne2] at e2
      exact h.dist a b ha hb2 hl2 e2
    · have := del_len hqm hnd
      have := h.num
      omega
    · rw [hdr]
      exact h.SN
    · rw [hdr]
      show (S1.cs.set j 0).getD k 0 = _
      rw [gsetN (by omega), gset hjl]
      by_cases e4 : k = j
      · rw [if_pos e4, if_pos e4, if_neg (by omega)]
      · rw [if_neg e4, if_neg e4, h.cs k hk]
end
#print axioms OInv.shr
end Go.Proofs.Ytomjfhlcploblaa.Pfx
