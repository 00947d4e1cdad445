/- Maps that a call makes, told as lists of keys and elements of any kind; the laws at the operations. Conditions: none. -/
import Derived.Maps.OwnSet
import Derived.Maps.OwnOps
import Derived.Carry
import Derived.Deep.Draws
namespace Go.Proofs.Ytmekcllgofeenaa.MapsV
open Go.Maps (Keyed)
open Go.ChangeMaps (setBlock heap_setBlock_same heap_setBlock_other)
open Go.MapKept
set_option linter.unusedVariables false
set_option linter.unusedSimpArgs false

section lists
variable {κ ν : Type} [DecidableEq κ]
def lget (l : List (κ × ν)) (k : κ) : Option ν := (l.find? (fun p => decide (p.1 = k))).map (·.2)
def lput (l : List (κ × ν)) (k : κ) (v : ν) : List (κ × ν) := if l.any (fun p => decide (p.1 = k)) then l.map (fun p => if p.1 = k then (k, v) else p) else l ++ [(k, v)]
def ldel (l : List (κ × ν)) (k : κ) : List (κ × ν) := l.filter (fun p => !decide (p.1 = k))

theorem lget_none {l : List (κ × ν)} {k : κ} (h : ∀ p ∈ l, p.1 ≠ k) : lget l k = none := by
  unfold lget
  rw [List.find?_eq_none.2 (fun p hp => by simpa using h p hp)]
  rfl
theorem lget_mem {l : List (κ × ν)} {k : κ} {v : ν} (hn : (l.map (·.1)).Nodup) (h : (k, v) ∈ l) : lget l k = some v := by
  induction l with
  | nil => simp at h
  | cons p l ih =>
    rw [List.map_cons, List.nodup_cons] at hn
    unfold lget
    rw [List.find?_cons]
    by_cases hp : p.1 = k
    · rw [decide_eq_true hp]
      rcases List.mem_cons.1 h with h | h
      · rw [← h]; rfl
      · exact absurd (List.mem_map.2 ⟨(k, v), h, rfl⟩) (by rw [← hp]; exact hn.1)
    · rw [decide_eq_false hp]
      rcases List.mem_cons.1 h with h | h
      · exact absurd (by rw [← h]) hp
      · exact ih hn.2 h
theorem mem_of_lget {l : List (κ × ν)} {k : κ} {v : ν} (h : lget l k = some v) : (k, v) ∈ l := by
  unfold lget at h
  obtain ⟨p, hp, rfl⟩ := Option.map_eq_some_iff.1 h
  have h1 := List.find?_some hp
  have h2 := List.mem_of_find?_eq_some hp
  have : p.1 = k := by simpa using h1
  subst this
  exact h2
theorem lget_eq_none {l : List (κ × ν)} {k : κ} (h : lget l k = none) : ∀ p ∈ l, p.1 ≠ k := by
  unfold lget at h
  rw [Option.map_eq_none_iff, List.find?_eq_none] at h
  intro p hp e
  exact h p hp (by simp [e])
theorem any_false {l : List (κ × ν)} {k : κ} (h : ∀ p ∈ l, p.1 ≠ k) : l.any (fun p => decide (p.1 = k)) = false := by
  rw [List.any_eq_false]
  intro p hp
  simpa using h p hp
theorem any_true {l : List (κ × ν)} {k : κ} {v : ν} (h : (k, v) ∈ l) : l.any (fun p => decide (p.1 = k)) = true := by
  rw [List.any_eq_true]
  exact ⟨_, h, by simp⟩
theorem lput_keys (l : List (κ × ν)) (k : κ) (v : ν) : (lput l k v).map (·.1) = if l.any (fun p => decide (p.1 = k)) then l.map (·.1) else l.map (·.1) ++ [k] := by
  unfold lput
  split
  · rw [List.map_map]
    apply List.map_congr_left
    intro p _
    by_cases hp : p.1 = k <;> simp [hp]
  · simp
theorem lput_nodup {l : List (κ × ν)} (hn : (l.map (·.1)).Nodup) (k : κ) (v : ν) : ((lput l k v).map (·.1)).Nodup := by
  rw [lput_keys]
  split
  · exact hn
  · rename_i h
    rw [List.nodup_append]
    refine ⟨hn, by simp, ?_⟩
    intro a ha b hb
    simp only [List.mem_singleton] at hb
    subst hb
    rintro rfl
    obtain ⟨p, hp, rfl⟩ := List.mem_map.1 ha
    exact h (List.any_eq_true.2 ⟨p, hp, by simp⟩)
theorem mem_lput {l : List (κ × ν)} {k : κ} {v : ν} {p : κ × ν} : p ∈ lput l k v ↔ (p ∈ l ∧ p.1 ≠ k) ∨ p = (k, v) := by
  unfold lput
  split
  · rename_i h
    obtain ⟨q, hq, hqk⟩ := List.any_eq_true.1 h
    have hqk : q.1 = k := by simpa using hqk
    rw [List.mem_map]
    constructor
    · rintro ⟨r, hr, rfl⟩
      by_cases hrk : r.1 = k
      · exact .inr (by simp [hrk])
      · exact .inl ⟨by simpa [hrk] using hr, by simp [hrk]⟩
    · rintro (⟨hp, hpk⟩ | rfl)
      · exact ⟨p, hp, by simp [hpk]⟩
      · exact ⟨q, hq, by simp [hqk]⟩
  · rename_i h
    rw [List.mem_append, List.mem_singleton]
    constructor
    · rintro (hp | rfl)
      · exact .inl ⟨hp, fun e => h (List.any_eq_true.2 ⟨p, hp, by simpa using e⟩)⟩
      · exact .inr rfl
    · rintro (⟨hp, _⟩ | rfl)
      · exact .inl hp
      · exact .inr rfl
theorem lget_lput {l : List (κ × ν)} (hn : (l.map (·.1)).Nodup) (k k' : κ) (v : ν) : lget (lput l k v) k' = if k' = k then some v else lget l k' := by
  split
  · rename_i e
    subst e
    exact lget_mem (lput_nodup hn _ _) (mem_lput.2 (.inr rfl))
  · rename_i hne
    cases hg : lget l k' with
    | none => exact lget_none (fun p hp e => by
        rcases mem_lput.1 hp with ⟨h1, _⟩ | rfl
        · exact lget_eq_none hg p h1 e
        · exact hne e.symm)
    | some u => exact lget_mem (lput_nodup hn _ _) (mem_lput.2 (.inl ⟨mem_of_lget hg, hne⟩))
theorem ldel_nodup {l : List (κ × ν)} (hn : (l.map (·.1)).Nodup) (k : κ) : ((ldel l k).map (·.1)).Nodup := hn.sublist (List.filter_sublist.map _)
theorem mem_ldel {l : List (κ × ν)} {k : κ} {p : κ × ν} : p ∈ ldel l k ↔ p ∈ l ∧ p.1 ≠ k := by simp [ldel]
theorem lget_ldel {l : List (κ × ν)} (hn : (l.map (·.1)).Nodup) (k k' : κ) : lget (ldel l k) k' = if k' = k then none else lget l k' := by
  split
  · rename_i e
    subst e
    exact lget_none (fun p hp => (mem_ldel.1 hp).2)
  · rename_i hne
    cases hg : lget l k' with
    | none => exact lget_none (fun p hp => lget_eq_none hg p (mem_ldel.1 hp).1)
    | some u => exact lget_mem (ldel_nodup hn _) (mem_ldel.2 ⟨mem_of_lget hg, hne⟩)
theorem lput_length_le (l : List (κ × ν)) (k : κ) (v : ν) : (lput l k v).length ≤ l.length + 1 := by
  unfold lput
  split <;> simp
end lists

/-- Block b is a map: its entries, keys and elements as values, in their order. -/
def HasMap {κ ν : Type} (P : Program) (kt : TypeId) (ek : κ → Value) (ev : ν → Value) (w : World) (b : Nat) (l : List (κ × ν)) : Prop :=
  ∃ es clock, w.heap[b]? = some (.map es clock) ∧ Stamped es clock ∧ es.toList.map (fun x => (x.key, x.val)) = l.map (fun p => (ek p.1, ev p.2)) ∧ ∀ p ∈ l, ∃ q, keyOf P kt (ek p.1) = some q

section
variable {κ ν : Type} {P : Program} {kt : TypeId} {ek : κ → Value} {ev : ν → Value} {w w1 : World} {b : Nat} {l : List (κ × ν)}

theorem HasMap.keysEq {es : Array MapEntry} (h : es.toList.map (fun x => (x.key, x.val)) = l.map (fun p => (ek p.1, ev p.2))) : es.toList.map (·.key) = (l.map (·.1)).map ek := by
  have := congrArg (List.map Prod.fst) h
  simpa [List.map_map, Function.comp_def] using this
theorem HasMap.nodup (h : HasMap P kt ek ev w b l) : (l.map (·.1)).Nodup := by
  obtain ⟨es, clock, _, hs, he, _⟩ := h
  have h1 := hs.2.2
  rw [HasMap.keysEq he] at h1
  exact List.Pairwise.of_map ek (fun a b hne e => hne (by rw [e])) h1
theorem HasMap.made (w : World) (P : Program) (kt : TypeId) (ek : κ → Value) (ev : ν → Value) : HasMap P kt ek ev (w.alloc (.map #[] 0)) w.heap.size ([] : List (κ × ν)) :=
  ⟨#[], 0, (heap_alloc w _).1, stamped_empty 0, rfl, by simp⟩
theorem HasMap.move (h : HasMap P kt ek ev w b l) (hb : w1.heap[b]? = w.heap[b]?) : HasMap P kt ek ev w1 b l := by
  obtain ⟨es, clock, h1, h2⟩ := h
  exact ⟨es, clock, by rw [hb]; exact h1, h2⟩
theorem HasMap.lt (h : HasMap P kt ek ev w b l) : b < w.heap.size := by
  obtain ⟨es, clock, h1, _⟩ := h
  exact (Array.getElem?_eq_some_iff.1 h1).1
theorem HasMap.below (h : HasMap P kt ek ev w b l) (hb : Go.RowKit.Below w.heap.size w w1) : HasMap P kt ek ev w1 b l := h.move (hb.block b h.lt)
theorem HasMap.belowAt {B : Nat} (h : HasMap P kt ek ev w b l) (hb : Go.RowKit.Below B w w1) (hB : b < B) : HasMap P kt ek ev w1 b l := h.move (hb.block b hB)
theorem HasMap.grown (h : HasMap P kt ek ev w b l) {row : Option Nat} (hg : w.grownBy w1 row) (hne : some b ≠ row) : HasMap P kt ek ev w1 b l := h.move (hg.block b h.lt hne)
theorem HasMap.alloc (h : HasMap P kt ek ev w b l) (o : Obj) : HasMap P kt ek ev (w.alloc o) b l := h.grown (World.grownBy_alloc w o none) (by simp)
theorem HasMap.drew (h : HasMap P kt ek ev w b l) : HasMap P kt ek ev w.drew b l := h
theorem HasMap.drewN (h : HasMap P kt ek ev w b l) (n : Nat) : HasMap P kt ek ev (w.drewN n) b l := h
theorem HasMap.setCell (h : HasMap P kt ek ev w b l) {a : Addr} (ha : b ≠ a.block) (u : Value) : HasMap P kt ek ev (w.setCell a u) b l := h.move (Go.RowKit.Below.heap_setCell _ _ _ _ ha)

/-- The entries at one place. -/
theorem HasMap.pair {es : Array MapEntry} (he : es.toList.map (fun x => (x.key, x.val)) = l.map (fun p => (ek p.1, ev p.2))) {j : Nat} {e : MapEntry} (hj : es.toList[j]? = some e) : ∃ p, l[j]? = some p ∧ e.key = ek p.1 ∧ e.val = ev p.2 := by
  have h1 := congrArg (fun q => q[j]?) he
  simp only [List.getElem?_map, hj, Option.map_some] at h1
  cases hl : l[j]? with
  | none => rw [hl] at h1; simp at h1
  | some p =>
    rw [hl] at h1
    simp at h1
    exact ⟨p, rfl, h1.1, h1.2⟩
theorem HasMap.keyed {es : Array MapEntry} (he : es.toList.map (fun x => (x.key, x.val)) = l.map (fun p => (ek p.1, ev p.2))) (hk : ∀ p ∈ l, ∃ q, keyOf P kt (ek p.1) = some q) : ∀ e ∈ es.toList, ∃ q, keyOf P kt e.key = some q := by
  intro e hem
  obtain ⟨j, hj⟩ := List.getElem?_of_mem hem
  obtain ⟨p, hp, h1, _⟩ := HasMap.pair he hj
  rw [h1]
  exact hk p (List.mem_of_getElem? hp)

variable [DecidableEq κ] {t e : TypeId}

theorem HasMap.look (h : HasMap P kt ek ev w b l) (K : Keyed P kt) (ht : P.underlying t = some (.map kt e)) {z : Value} (hz : (zeroValue e).run P w = .ok z w) (hinj : ∀ a b, ek a = ek b → a = b) {k : κ} (hkey : ∃ q, keyOf P kt (ek k) = some q) (c : Bool) :
    (Instr.lookup t (.map (some b)) (ek k) c).run P w = .ok (if c then .tuple #[((lget l k).map ev).getD z, .bool (lget l k).isSome] else ((lget l k).map ev).getD z) w := by
  have hn := h.nodup
  obtain ⟨es, clock, hb, hs, he, hk⟩ := h
  obtain ⟨q, hq⟩ := hkey
  rcases K.find w hq es.toList (HasMap.keyed he hk) with ⟨h1, h2⟩ | ⟨j, e0, h1, h2, h3⟩
  · have hg : lget l k = none := lget_none (fun p hp hpk => by
      obtain ⟨j, hj⟩ := List.getElem?_of_mem hp
      have h4 := congrArg (fun q => q[j]?) he
      simp only [List.getElem?_map, hj, Option.map_some] at h4
      cases hl : es.toList[j]? with
      | none => rw [hl] at h4; simp at h4
      | some x =>
        rw [hl] at h4
        simp at h4
        exact h2 x (List.mem_of_getElem? hl) (by rw [h4.1, hpk]))
    rw [hg]
    cases c <;> simp [Instr.lookup, run_underlying ht, MapKept.run_getObj_map hb, K.check w _ hq, h1, hz, Result.andThen]
  · obtain ⟨p, hp, h4, h5⟩ := HasMap.pair he h2
    have hpk : p.1 = k := hinj _ _ (h4.symm.trans h3)
    have hg : lget l k = some p.2 := lget_mem hn (by rw [← hpk]; exact List.mem_of_getElem? hp)
    rw [hg]
    cases c <;> simp [Instr.lookup, run_underlying ht, MapKept.run_getObj_map hb, K.check w _ hq, h1, h5, Result.andThen]

theorem HasMap.store (h : HasMap P kt ek ev w b l) (K : Keyed P kt) (ht : P.underlying t = some (.map kt e)) (hinj : ∀ a b, ek a = ek b → a = b) {k : κ} (hkey : ∃ q, keyOf P kt (ek k) = some q) (v : ν) :
    ∃ w', (Instr.mapUpdate t (.map (some b)) (ek k) (ev v)).run P w = .ok () w' ∧ HasMap P kt ek ev w' b (lput l k v) ∧ w.mapTurned w' b := by
  have hn := h.nodup
  obtain ⟨es, clock, hb, hs, he, hk⟩ := h
  obtain ⟨q, hq⟩ := hkey
  rcases K.find w hq es.toList (HasMap.keyed he hk) with ⟨h1, h2⟩ | ⟨j, e0, h1, h2, h3⟩
  · have hne : ∀ p ∈ l, p.1 ≠ k := fun p hp hpk => by
      obtain ⟨j, hj⟩ := List.getElem?_of_mem hp
      have h4 := congrArg (fun q => q[j]?) he
      simp only [List.getElem?_map, hj, Option.map_some] at h4
      cases hl : es.toList[j]? with
      | none => rw [hl] at h4; simp at h4
      | some x =>
        rw [hl] at h4
        simp at h4
        exact h2 x (List.mem_of_getElem? hl) (by rw [h4.1, hpk])
    refine ⟨setBlock w b (.map (es.push ⟨ek k, ev v, clock⟩) (clock + 1)), ?_, ⟨_, _, heap_setBlock_same hb _, stamped_push hs h2, ?_, ?_⟩, ⟨es, clock, _, _, hb, rfl⟩⟩
    · simp [Instr.mapUpdate, run_underlying ht, MapKept.run_getObj_map hb, K.check w false hq, h1, MapKept.run_setObj_map _ hb, Result.andThen, setBlock]
    · unfold lput
      rw [any_false hne]
      simp [he]
    · intro p hp
      rcases mem_lput.1 hp with ⟨h4, _⟩ | rfl
      · exact hk p h4
      · exact ⟨q, hq⟩
  · obtain ⟨p, hp, h4, h5⟩ := HasMap.pair he h2
    have hpk : p.1 = k := hinj _ _ (h4.symm.trans h3)
    have hj : es[j]? = some e0 := by simpa using h2
    have hjl : j < es.toList.length := (List.getElem?_eq_some_iff.1 h2).1
    have hjl' : j < l.length := (List.getElem?_eq_some_iff.1 hp).1
    have hkeyf : ∀ e', es[j]? = some e' → ({ e' with key := ek k, val := ev v } : MapEntry).key = e'.key := fun e' he' => by rw [hj] at he'; cases he'; exact h3.symm
    have hlist : (es.modify j (fun e' => { e' with key := ek k, val := ev v })).toList = es.toList.set j { e0 with key := ek k, val := ev v } := by
      rw [Array.toList_modify, ChangeMaps.modify_eq_set _ _ _ _ h2]
    have hput : lput l k v = l.set j (k, v) := by
      have hmem : (k, p.2) ∈ l := by rw [← hpk]; exact List.mem_of_getElem? hp
      unfold lput
      rw [any_true hmem, if_pos rfl]
      apply List.ext_getElem?
      intro i
      rw [List.getElem?_map, List.getElem?_set]
      by_cases hij : j = i
      · subst hij
        rw [hp]
        simp [hpk, hjl']
      · rw [if_neg hij]
        cases hli : l[i]? with
        | none => rfl
        | some r =>
          have : r.1 ≠ k := fun e => by
            have hil : i < l.length := (List.getElem?_eq_some_iff.1 hli).1
            have h6 := List.pairwise_iff_getElem.1 hn
            have e1 : l[j].1 = k := by rw [(List.getElem?_eq_some_iff.1 hp).2]; exact hpk
            have e2 : l[i].1 = k := by rw [(List.getElem?_eq_some_iff.1 hli).2]; exact e
            rcases Nat.lt_or_gt_of_ne hij with hlt | hgt
            · refine h6 j i (by simpa using hjl') (by simpa using hil) hlt ?_
              simp [e1, e2]
            · refine h6 i j (by simpa using hil) (by simpa using hjl') hgt ?_
              simp [e1, e2]
          simp [this]
    refine ⟨setBlock w b (.map (es.modify j (fun e' => { e' with key := ek k, val := ev v })) clock), ?_, ⟨_, _, heap_setBlock_same hb _, stamped_modify hs _ _ (fun _ _ => rfl) (fun e' _ he' => hkeyf e' he'), ?_, ?_⟩, ⟨es, clock, _, _, hb, rfl⟩⟩
    · simp [Instr.mapUpdate, run_underlying ht, MapKept.run_getObj_map hb, K.check w false hq, h1, hj, h3, K.stays w hq, MapKept.run_setObj_map _ hb, Result.andThen, setBlock]
    · rw [hlist, hput, List.map_set, he, List.map_set]
    · intro p' hp'
      rcases mem_lput.1 hp' with ⟨h6, _⟩ | rfl
      · exact hk p' h6
      · exact ⟨q, hq⟩

theorem HasMap.drop (h : HasMap P kt ek ev w b l) (K : Keyed P kt) (ht : P.underlying t = some (.map kt e)) (hinj : ∀ a b, ek a = ek b → a = b) {k : κ} (hkey : ∃ q, keyOf P kt (ek k) = some q) (ty : TypeId) :
    ∃ w', (Builtin.delete_ #[t, kt] ty #[.map (some b), ek k]).run P w = .ok (.tuple #[]) w' ∧ HasMap P kt ek ev w' b (ldel l k) ∧ w.mapTurned w' b := by
  have hn := h.nodup
  obtain ⟨es, clock, hb, hs, he, hk⟩ := h
  obtain ⟨q, hq⟩ := hkey
  rcases K.find w hq es.toList (HasMap.keyed he hk) with ⟨h1, h2⟩ | ⟨j, e0, h1, h2, h3⟩
  · have hne : ∀ p ∈ l, p.1 ≠ k := fun p hp hpk => by
      obtain ⟨j, hj⟩ := List.getElem?_of_mem hp
      have h4 := congrArg (fun q => q[j]?) he
      simp only [List.getElem?_map, hj, Option.map_some] at h4
      cases hl : es.toList[j]? with
      | none => rw [hl] at h4; simp at h4
      | some x =>
        rw [hl] at h4
        simp at h4
        exact h2 x (List.mem_of_getElem? hl) (by rw [h4.1, hpk])
    have hdel : ldel l k = l := List.filter_eq_self.2 (fun p hp => by simpa using hne p hp)
    refine ⟨setBlock w b (.map es clock), ?_, ⟨_, _, heap_setBlock_same hb _, hs, by rw [hdel]; exact he, by rw [hdel]; exact hk⟩, ⟨es, clock, _, _, hb, rfl⟩⟩
    simp [Builtin.delete_, run_underlying ht, MapKept.run_getObj_map hb, K.check w _ hq, h1, MapKept.run_setObj_map _ hb, Result.andThen, setBlock]
  · obtain ⟨p, hp, h4, h5⟩ := HasMap.pair he h2
    have hpk : p.1 = k := hinj _ _ (h4.symm.trans h3)
    have hjl : j < es.toList.length := (List.getElem?_eq_some_iff.1 h2).1
    have hjs : j < es.size := by simpa using hjl
    have hsub : (es.eraseIdxIfInBounds j).toList = es.toList.eraseIdx j := by
      unfold Array.eraseIdxIfInBounds
      rw [dif_pos hjs]
      simp
    have hdel : ldel l k = l.eraseIdx j := by
      have hjl' : j < l.length := (List.getElem?_eq_some_iff.1 hp).1
      have hsplit : l = l.take j ++ p :: l.drop (j + 1) := by
        have : l.drop j = p :: l.drop (j + 1) := by
          rw [List.drop_eq_getElem_cons hjl']
          have := (List.getElem?_eq_some_iff.1 hp).2
          rw [this]
        rw [← this, List.take_append_drop]
      have hn2 := hn
      rw [hsplit, List.map_append, List.map_cons, List.nodup_append] at hn2
      obtain ⟨_, n2, n3⟩ := hn2
      rw [List.nodup_cons] at n2
      rw [List.eraseIdx_eq_take_drop_succ]
      conv => lhs; rw [hsplit]
      unfold ldel
      rw [List.filter_append, List.filter_cons]
      have e1 : (l.take j).filter (fun p => !decide (p.1 = k)) = l.take j := List.filter_eq_self.2 (fun r hr => by
        have := n3 r.1 (List.mem_map.2 ⟨r, hr, rfl⟩) p.1 (by simp)
        simpa [← hpk] using this)
      have e2 : (l.drop (j + 1)).filter (fun p => !decide (p.1 = k)) = l.drop (j + 1) := List.filter_eq_self.2 (fun r hr => by
        have : r.1 ≠ p.1 := fun e => n2.1 (by rw [← e]; exact List.mem_map.2 ⟨r, hr, rfl⟩)
        simpa [← hpk] using this)
      rw [e1, e2]
      simp [hpk]
    refine ⟨setBlock w b (.map (es.eraseIdxIfInBounds j) clock), ?_, ⟨_, _, heap_setBlock_same hb _, stamped_erase hs j, ?_, ?_⟩, ⟨es, clock, _, _, hb, rfl⟩⟩
    · simp [Builtin.delete_, run_underlying ht, MapKept.run_getObj_map hb, K.check w _ hq, h1, MapKept.run_setObj_map _ hb, Result.andThen, setBlock]
    · rw [hsub, hdel, ChangeMaps.map_eraseIdx, he, ← ChangeMaps.map_eraseIdx]
    · intro p' hp'
      exact hk p' (mem_ldel.1 hp').1

omit [DecidableEq κ] in
theorem HasMap.len (h : HasMap P kt ek ev w b l) (ht : P.underlying t = some (.map kt e)) (ty : TypeId) : (Builtin.len_ #[t] ty #[.map (some b)]).run P w = .ok (.int .i64 l.length) w := by
  obtain ⟨es, clock, hb, hs, he, hk⟩ := h
  have : es.size = l.length := by simpa using congrArg List.length he
  rw [← this]
  simp [Builtin.len_, run_underlying ht, MapKept.run_getObj_map hb, goInt, Result.andThen]
end

/-! ### at the operations -/
section
variable {κ ν : Type} [DecidableEq κ] {P : Program} (w : World) {ops : Array Oper} {rest : List Oper} {o : Oper} {a : Act} {Q : Exit → Act → World → Prop}
  {kt : TypeId} {ek : κ → Value} {ev : ν → Value} {b : Nat} {l : List (κ × ν)}

theorem wpList_look (hg : o.guard = none) (m x : Operand) (t e : TypeId) (hop : o.op = Op.lookup t m x false) (K : Keyed P kt) (ht : P.underlying t = some (.map kt e)) (z : Value) (hz : (zeroValue e).run P w = .ok z w)
    (hinj : ∀ a b, ek a = ek b → a = b) (hm : a.eval m = .map (some b)) (h : HasMap P kt ek ev w b l) (k : κ) (hx : a.eval x = ek k) (hkey : ∃ q, keyOf P kt (ek k) = some q)
    (hK : wpList P ops Q rest (a.put o.dst (((lget l k).map ev).getD z)) w) : wpList P ops Q (o :: rest) a w := by
  refine wpList_plain hg fun K' hK' => ?_
  have hrun := h.look K ht hz hinj hkey false
  unfold Oper.wp
  simp [execOp, hop, hm, hx, hrun, Result.andThen]
  exact hK' _ _ hK

theorem wpList_look_ok (hg : o.guard = none) (m x : Operand) (t e : TypeId) (hop : o.op = Op.lookup t m x true) (K : Keyed P kt) (ht : P.underlying t = some (.map kt e)) (z : Value) (hz : (zeroValue e).run P w = .ok z w)
    (hinj : ∀ a b, ek a = ek b → a = b) (hm : a.eval m = .map (some b)) (h : HasMap P kt ek ev w b l) (k : κ) (hx : a.eval x = ek k) (hkey : ∃ q, keyOf P kt (ek k) = some q)
    (hK : wpList P ops Q rest (a.put o.dst (.tuple #[((lget l k).map ev).getD z, .bool (lget l k).isSome])) w) : wpList P ops Q (o :: rest) a w := by
  refine wpList_plain hg fun K' hK' => ?_
  have hrun := h.look K ht hz hinj hkey true
  unfold Oper.wp
  simp [execOp, hop, hm, hx, hrun, Result.andThen]
  exact hK' _ _ hK

theorem wpList_store (hg : o.guard = none) (m x v : Operand) (t e : TypeId) (hop : o.op = Op.mapUpdate t m x v) (K : Keyed P kt) (ht : P.underlying t = some (.map kt e))
    (hinj : ∀ a b, ek a = ek b → a = b) (hm : a.eval m = .map (some b)) (h : HasMap P kt ek ev w b l) (k : κ) (hx : a.eval x = ek k) (hkey : ∃ q, keyOf P kt (ek k) = some q) (u : ν) (hv : a.eval v = ev u)
    (hK : ∀ w', HasMap P kt ek ev w' b (lput l k u) → w.mapTurned w' b → wpList P ops Q rest (a.put o.dst undef) w') : wpList P ops Q (o :: rest) a w := by
  refine wpList_plain hg fun K' hK' => ?_
  obtain ⟨w', hrun, r1, r2⟩ := h.store K ht hinj hkey u
  unfold Oper.wp
  simp [execOp, hop, hm, hx, hv, hrun, Result.andThen]
  exact hK' _ _ (hK w' r1 r2)

theorem wpList_drop (hg : o.guard = none) (m x : Operand) (t e : TypeId) (hop : o.op = Op.call { callee := Callee.builtin Builtin.delete, args := #[m, x], argTypes := #[t, kt] }) (K : Keyed P kt) (ht : P.underlying t = some (.map kt e))
    (hinj : ∀ a b, ek a = ek b → a = b) (hm : a.eval m = .map (some b)) (h : HasMap P kt ek ev w b l) (k : κ) (hx : a.eval x = ek k) (hkey : ∃ q, keyOf P kt (ek k) = some q)
    (hK : ∀ w', HasMap P kt ek ev w' b (ldel l k) → w.mapTurned w' b → wpList P ops Q rest (a.put o.dst (.tuple #[])) w') : wpList P ops Q (o :: rest) a w := by
  refine wpList_plain hg fun K' hK' => ?_
  obtain ⟨w', hrun, r1, r2⟩ := h.drop K ht hinj hkey o.type
  unfold Oper.wp
  simp [execOp, hop, resolve, invoke, builtin, hm, hx, hrun, Result.andThen]
  exact hK' _ _ (hK w' r1 r2)

omit [DecidableEq κ] in
theorem wpList_len (hg : o.guard = none) (m : Operand) (t e : TypeId) (hop : o.op = Op.call { callee := Callee.builtin Builtin.len, args := #[m], argTypes := #[t] }) (ht : P.underlying t = some (.map kt e))
    (hm : a.eval m = .map (some b)) (h : HasMap P kt ek ev w b l)
    (hK : wpList P ops Q rest (a.put o.dst (.int .i64 l.length)) w) : wpList P ops Q (o :: rest) a w := by
  refine wpList_plain hg fun K' hK' => ?_
  unfold Oper.wp
  simp [execOp, hop, resolve, invoke, builtin, hm, h.len ht o.type, Result.andThen]
  exact hK' _ _ hK
end

/-- Behind a store into the map: all other blocks are as they were. -/
theorem turned_grown {w w' : World} {b : Nat} (h : w.mapTurned w' b) : w.grownBy w' (some b) := h.grown

#print axioms wpList_look
#print axioms wpList_look_ok
#print axioms wpList_store
#print axioms wpList_drop
#print axioms wpList_len
end Go.Proofs.Ytmekcllgofeenaa.MapsV
