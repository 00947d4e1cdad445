/- Ranging over a map that is told as a list of keys and elements: each entry comes once, in any order. Conditions: no entry is laid while it lasts. -/
import Derived.Test.YtomjfhlcploblaaMaps
import Derived.Maps.RangeWalk
namespace Go.Proofs.Ytomjfhlcploblaa.MapsV
open Go.Maps (Keyed)
open Go.ChangeMaps (setBlock heap_setBlock_same heap_setBlock_other)
open Go.MapKept
set_option linter.unusedVariables false
set_option linter.unusedSimpArgs false

/-- Block r ranges over the map in block b; the keys that have come; how many are still to come. -/
def Rng {κ ν : Type} (P : Program) (kt : TypeId) (ek : κ → Value) (ev : ν → Value) (w : World) (b r : Nat) (l : List (κ × ν)) (done : List κ) (cnt : Nat) : Prop :=
  ∃ es clock since seen c0, w.heap[b]? = some (.map es clock) ∧ Stamped es clock ∧ es.toList.map (fun x => (x.key, x.val)) = l.map (fun p => (ek p.1, ev p.2)) ∧ (∀ p ∈ l, ∃ q, keyOf P kt (ek p.1) = some q) ∧
    w.heap[r]? = some (.mapIter (some b) since seen c0) ∧ (∀ x ∈ es.toList, x.born < since) ∧ (leftOf es seen).size = cnt ∧ since ≤ c0 ∧ since ≤ clock ∧ (∀ (j : Nat) (e : MapEntry) (p : κ × ν), es.toList[j]? = some e → l[j]? = some p → (seen.contains e.born = true ↔ p.1 ∈ done))

section
variable {κ ν : Type} {P : Program} {kt : TypeId} {ek : κ → Value} {ev : ν → Value} {w w1 : World} {b r : Nat} {l : List (κ × ν)} {done : List κ} {cnt : Nat}

theorem Rng.map (h : Rng P kt ek ev w b r l done cnt) : HasMap P kt ek ev w b l := by
  obtain ⟨es, clock, _, _, _, h1, h2, h3, h4, _⟩ := h
  exact ⟨es, clock, h1, h2, h3, h4⟩
theorem Rng.lt (h : Rng P kt ek ev w b r l done cnt) : b < w.heap.size ∧ r < w.heap.size := by
  obtain ⟨es, clock, _, _, _, h1, _, _, _, h5, _⟩ := h
  exact ⟨(Array.getElem?_eq_some_iff.1 h1).1, (Array.getElem?_eq_some_iff.1 h5).1⟩
theorem Rng.move (h : Rng P kt ek ev w b r l done cnt) (hb : w1.heap[b]? = w.heap[b]?) (hr : w1.heap[r]? = w.heap[r]?) : Rng P kt ek ev w1 b r l done cnt := by
  obtain ⟨es, clock, since, seen, c0, h1, h2, h3, h4, h5, h6⟩ := h
  exact ⟨es, clock, since, seen, c0, by rw [hb]; exact h1, h2, h3, h4, by rw [hr]; exact h5, h6⟩
theorem Rng.ne (h : Rng P kt ek ev w b r l done cnt) : r ≠ b := by
  obtain ⟨es, clock, _, _, _, h1, _, _, _, h5, _⟩ := h
  rintro rfl
  rw [h1] at h5
  cases h5

theorem HasMap.range {t e : TypeId} (h : HasMap P kt ek ev w b l) (ht : P.underlying t = some (.map kt e)) :
    ∃ w', (Instr.range t (.map (some b))).run P w = .ok (.pointer (some ⟨w.heap.size, 0, none⟩)) w' ∧ Rng P kt ek ev w' b w.heap.size l [] l.length ∧ w.grownBy w' none ∧ w'.heap.size = w.heap.size + 1 := by
  have hlt := h.lt
  obtain ⟨es, clock, hb, hs, he, hk⟩ := h
  refine ⟨_, run_range_map w t kt e b es clock ht hb, ⟨es, clock, clock, #[], clock, ((MapKept.heap_alloc w _).2 b hlt).trans hb, hs, he, hk, (MapKept.heap_alloc w _).1, hs.1, ?_, Nat.le_refl _, Nat.le_refl _, ?_⟩, World.grownBy_alloc w _ none, by simp⟩
  · have := congrArg List.length he
    have hf : leftOf es #[] = es := Array.filter_eq_self.2 (by simp)
    rw [hf]
    simpa using this
  · intro j e p _ _
    simp

theorem Rng.next (h : Rng P kt ek ev w b r l done cnt) (ty : TypeId) :
    (cnt = 0 ∧ (∀ p ∈ l, p.1 ∈ done) ∧ (Instr.next (.pointer (some ⟨r, 0, none⟩)) false ty).run P w = .ok (.tuple #[.bool false]) w) ∨
    ∃ p w' cnt', p ∈ l ∧ p.1 ∉ done ∧ (Instr.next (.pointer (some ⟨r, 0, none⟩)) false ty).run P w = .ok (.tuple #[.bool true, ek p.1, ev p.2]) w' ∧ Rng P kt ek ev w' b r l (done ++ [p.1]) cnt' ∧ cnt' < cnt ∧
      w.grownBy w' (some r) ∧ w'.heap.size = w.heap.size ∧ (Instr.entry (.pointer (some ⟨r, 0, none⟩))).run P w' = .ok (.tuple #[ek p.1, ev p.2]) w' := by
  have hne := h.ne
  have hnd := h.map.nodup
  obtain ⟨es, clock, since, seen, c0, hb, hs, he, hk, hr, hold, rfl, hsc, hsk, hl⟩ := h
  have hst := (stamped_iff es clock).1 hs
  have hlen : es.toList.length = l.length := by simpa using congrArg List.length he
  rcases run_next_at (P := P) w ty r b since c0 seen es clock hr hb hold hsc with ⟨h0, hrun⟩ | ⟨e, hel, w1, hal, hrun⟩
  · refine Or.inl ⟨h0, fun p hp => ?_, hrun⟩
    obtain ⟨j, hj⟩ := List.getElem?_of_mem hp
    have hjl : j < es.toList.length := by rw [hlen]; exact (List.getElem?_eq_some_iff.1 hj).1
    have hej : es.toList[j]? = some es.toList[j] := List.getElem?_eq_getElem hjl
    exact (hl j _ p hej hj).1 (all_seen es seen h0 _ (List.getElem_mem hjl))
  · obtain ⟨hem, hes⟩ := mem_left hel
    obtain ⟨j, hej⟩ := List.getElem?_of_mem hem
    obtain ⟨p, hpj, hpk, hpv⟩ := HasMap.pair he hej
    have hnot : p.1 ∉ done := fun hin => by
      have := (hl j e p hej hpj).2 hin
      rw [hes] at this
      cases this
    have hr1 : w1.heap[r]? = some (.mapIter (some b) since seen c0) := by rcases hal with rfl | rfl <;> exact hr
    have hb1 : w1.heap[b]? = some (.map es clock) := by rcases hal with rfl | rfl <;> exact hb
    have hset := heap_set (o' := .mapIter (some b) since (seen.push e.born) clock) hr1
    have hb' : (setBlock w1 r (.mapIter (some b) since (seen.push e.born) clock)).heap[b]? = some (.map es clock) := (hset.2 b (fun e1 => hne e1.symm)).trans hb1
    rw [hpk, hpv] at hrun
    have hent := run_entry_at (P := P) (setBlock w1 r (.mapIter (some b) since (seen.push e.born) clock)) r b since seen es clock e hset.1 hb' hem hst.2.1
    rw [hpk, hpv] at hent
    refine Or.inr ⟨p, _, _, List.mem_of_getElem? hpj, hnot, hrun, ⟨es, clock, since, seen.push e.born, clock, hb', hs, he, hk, hset.1, hold, rfl, hsk, hsk, fun j' e' p' hj' hp' => ?_⟩, left_shrinks es seen e hel, ?_, ?_, hent⟩
    · rw [contains_push, Bool.or_eq_true, hl j' e' p' hj' hp', List.mem_append, List.mem_singleton]
      have hiff : (e'.born == e.born) = true ↔ p'.1 = p.1 := by
        rw [beq_iff_eq]
        constructor
        · intro hbe
          have h1 := born_inj hst.2.1 (List.mem_of_getElem? hj') hem hbe
          subst h1
          have hjj : j' = j := by
            have h2 := HasMap.keysEq he
            have h3 := hst.2.2
            rcases Nat.lt_trichotomy j' j with hlt | heq | hgt
            · exfalso
              have hn1 := List.pairwise_iff_getElem.1 h3 j' j (List.getElem?_eq_some_iff.1 hj').1 (List.getElem?_eq_some_iff.1 hej).1 hlt
              rw [(List.getElem?_eq_some_iff.1 hj').2, (List.getElem?_eq_some_iff.1 hej).2] at hn1
              exact hn1 rfl
            · exact heq
            · exfalso
              have hn1 := List.pairwise_iff_getElem.1 h3 j j' (List.getElem?_eq_some_iff.1 hej).1 (List.getElem?_eq_some_iff.1 hj').1 hgt
              rw [(List.getElem?_eq_some_iff.1 hj').2, (List.getElem?_eq_some_iff.1 hej).2] at hn1
              exact hn1 rfl
          subst hjj
          rw [hpj] at hp'
          cases hp'
          rfl
        · intro hpe
          have hjj : j' = j := by
            rw [List.nodup_iff_pairwise_ne] at hnd
            have b1 : j' < (l.map (·.1)).length := by rw [List.length_map]; exact (List.getElem?_eq_some_iff.1 hp').1
            have b2 : j < (l.map (·.1)).length := by rw [List.length_map]; exact (List.getElem?_eq_some_iff.1 hpj).1
            have g1 : (l.map (·.1))[j'] = p'.1 := by rw [List.getElem_map, (List.getElem?_eq_some_iff.1 hp').2]
            have g2 : (l.map (·.1))[j] = p.1 := by rw [List.getElem_map, (List.getElem?_eq_some_iff.1 hpj).2]
            rcases Nat.lt_trichotomy j' j with hlt | heq | hgt
            · exact absurd (g1.trans (hpe.trans g2.symm)) (List.pairwise_iff_getElem.1 hnd j' j b1 b2 hlt)
            · exact heq
            · exact absurd (g2.trans (hpe.symm.trans g1.symm)) (List.pairwise_iff_getElem.1 hnd j j' b2 b1 hgt)
          subst hjj
          rw [hej] at hj'
          cases hj'
          rfl
      rw [hiff]
    · rcases hal with rfl | rfl <;> exact ⟨rfl, rfl, rfl, by simp [setBlock], fun i _ hi => hset.2 i (fun e1 => hi (by rw [e1]))⟩
    · rcases hal with rfl | rfl <;> simp [setBlock]
end

section
variable {κ ν : Type} {P : Program} (w : World) {ops : Array Oper} {rest : List Oper} {o : Oper} {a : Act} {Q : Exit → Act → World → Prop}
  {kt : TypeId} {ek : κ → Value} {ev : ν → Value} {b r : Nat} {l : List (κ × ν)} {done : List κ} {cnt : Nat}

/-- 'range m'. -/
theorem wpList_rng (hg : o.guard = none) (m : Operand) (t e : TypeId) (hop : o.op = Op.range t m) (ht : P.underlying t = some (.map kt e)) (hm : a.eval m = .map (some b)) (h : HasMap P kt ek ev w b l)
    (hK : ∀ w', Rng P kt ek ev w' b w.heap.size l [] l.length → w.grownBy w' none → w'.heap.size = w.heap.size + 1 → wpList P ops Q rest (a.put o.dst (.pointer (some ⟨w.heap.size, 0, none⟩))) w') :
    wpList P ops Q (o :: rest) a w := by
  refine wpList_plain hg fun K' hK' => ?_
  obtain ⟨w', hrun, r1, r2, r3⟩ := h.range ht
  unfold Oper.wp
  simp [execOp, hop, hm, hrun, Result.andThen]
  exact hK' _ _ (hK w' r1 r2 r3)
/-- The step: nothing is left, or one more comes. -/
theorem wpList_nxt (hg : o.guard = none) (it : Operand) (hop : o.op = Op.next it false) (hit : a.eval it = .pointer (some ⟨r, 0, none⟩)) (h : Rng P kt ek ev w b r l done cnt)
    (hDone : cnt = 0 → (∀ p ∈ l, p.1 ∈ done) → wpList P ops Q rest (a.put o.dst (.tuple #[.bool false])) w)
    (hMore : ∀ p w' cnt', p ∈ l → p.1 ∉ done → Rng P kt ek ev w' b r l (done ++ [p.1]) cnt' → cnt' < cnt → w.grownBy w' (some r) → w'.heap.size = w.heap.size →
      (Instr.entry (.pointer (some ⟨r, 0, none⟩))).run P w' = .ok (.tuple #[ek p.1, ev p.2]) w' → wpList P ops Q rest (a.put o.dst (.tuple #[.bool true, ek p.1, ev p.2])) w') :
    wpList P ops Q (o :: rest) a w := by
  refine wpList_plain hg fun K' hK' => ?_
  unfold Oper.wp
  rcases h.next o.type with ⟨h0, hl, hrun⟩ | ⟨p, w', cnt', hp, hnd, hrun, hrg, hlt, hgr, hsz, hen⟩
  · simp [execOp, hop, hit, hrun, Result.andThen]
    exact hK' _ _ (hDone h0 hl)
  · simp [execOp, hop, hit, hrun, Result.andThen]
    exact hK' _ _ (hMore p w' cnt' hp hnd hrg hlt hgr hsz hen)
end
#print axioms wpList_rng
#print axioms wpList_nxt
end Go.Proofs.Ytomjfhlcploblaa.MapsV
