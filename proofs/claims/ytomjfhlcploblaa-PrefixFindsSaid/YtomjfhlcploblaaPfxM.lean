/- Keep's plain part: a new node has come. Conditions: none. -/
import Derived.Test.YtomjfhlcploblaaPfxI
namespace Go.Proofs.Ytomjfhlcploblaa.Pfx
open Go.RowKit Go.Proofs.YtomjfhlcploblaaW.PrintWords Go.Proofs.YtomjfhlcploblaaW.PrintMore Go.Proofs.Ytomjfhlcploblaa.Pool Go.Proofs.Ytomjfhlcploblaa.MapsV
set_option linter.unusedVariables false
set_option linter.unusedSimpArgs false

/-- The new node, and all nodes with it. -/
def newN (at_ : Int) (tk : List Int) (x b : Int) : Nd := ⟨at_, tk, x, b, 0, 0⟩
/-- The cache with the new node, the one above told of it. -/
def Cs.mid (C : Cs) (at_ : Int) (tk : List Int) (x b : Int) (g : Nat) : Cs := { N := upd (kidF at_ 1) (C.N ++ [(newN at_ tk x b, g)]), last := x, now := C.now }
theorem kid_none {N : List (Nd × Nat)} {x c : Int} (h : nm N x = none) : upd (kidF x c) N = N := by
  unfold upd
  conv => rhs; rw [← List.map_id N]
  apply List.map_congr_left
  intro q hq
  have : q.1.name ≠ x := fun e => by
    have h1 := List.find?_eq_none.1 h q hq
    simp [e] at h1
  simp [kidF, this]
theorem hold_cs {S : Pl} {b : Int} {k : Nat} (h : ∀ c ∈ S.cs, c ≤ k) : ∀ c ∈ (S.holdS b).cs, c ≤ k + 1 := by
  unfold Pl.holdS
  split
  · intro c hc
    rcases List.mem_or_eq_of_mem_set hc with hx | rfl
    · have := h c hx
      omega
    · by_cases hl : b.toNat < S.cs.length
      · have := h (S.cs.getD b.toNat 0) (by simp [List.getD_eq_getElem?_getD, List.getElem?_eq_getElem hl])
        omega
      · have : S.cs.getD b.toNat 0 = 0 := by simp [List.getD_eq_getElem?_getD, List.getElem?_eq_none (Nat.le_of_not_lt hl)]
        omega
  · intro c hc
    have := h c hc
    omega
theorem Fine.new {C : Cs} {S : Pl} {m : Nat} (h : Fine C S m) (at_ : Int) (tk : List Int) (b : Int) (g : Nat) (hb : good b) : ∀ q ∈ C.N ++ [(newN at_ tk (C.last + 1) b, g)], 1 ≤ q.1.name ∧ q.1.name ≤ C.last + 1 ∧ good q.1.block ∧ -1048576 ≤ q.1.kids ∧ q.1.kids ≤ (1048576 + m : Nat) := by
  intro q hq
  have hl := h.last
  rcases List.mem_append.1 hq with h1 | h1
  · have := h.nm q h1
    exact ⟨this.1, by omega, this.2.2.1, this.2.2.2⟩
  · rw [List.mem_singleton] at h1
    subst h1
    refine ⟨?_, Int.le_refl _, hb, ?_, ?_⟩
    · show 1 ≤ C.last + 1
      omega
    · show (-1048576 : Int) ≤ 0
      omega
    · show (0 : Int) ≤ _
      omega
theorem Fine.grow {C : Cs} {S : Pl} {m : Nat} (h : Fine C S m) (at_ : Int) (tk : List Int) (b : Int) (g : Nat) (hb : good b) : Fine (C.grow at_ tk b g) (S.holdS b) (m + 1) := by
  refine ⟨fun q hq => ?_, ?_, h.now, ?_⟩
  · obtain ⟨r, hr, rfl⟩ := List.mem_map.1 hq
    obtain ⟨s, hs, rfl⟩ := List.mem_map.1 hr
    have h1 := h.new at_ tk b g hb s hs
    have k1 : (useF [C.last + 1] C.now (kidF at_ 1 s.1)).kids = (kidF at_ 1 s.1).kids := by unfold useF; split <;> rfl
    have k2 : (kidF at_ 1 s.1).kids = s.1.kids ∨ (kidF at_ 1 s.1).kids = s.1.kids + 1 := by
      unfold kidF
      split
      · exact .inr rfl
      · exact .inl rfl
    refine ⟨?_, ?_, ?_, ?_, ?_⟩
    · rw [(useF_mild _ _).name, (kidF_mild _ _).name]
      exact h1.1
    · rw [(useF_mild _ _).name, (kidF_mild _ _).name]
      exact h1.2.1
    · rw [useF_block, kidF_block]
      exact h1.2.2.1
    · rw [k1]
      have := h1.2.2.2.1
      omega
    · rw [k1]
      have := h1.2.2.2.2
      omega
  · have := h.last
    exact ⟨by show 0 ≤ C.last + 1; omega, by show C.last + 1 ≤ _; omega⟩
  · intro c hc
    have := hold_cs h.cs c hc
    omega
theorem sub_grow {C0 C : Cs} {sz : Nat} (h : ∀ q ∈ C.N, (∃ r ∈ C0.N, r.2 = q.2) ∨ sz ≤ q.2) (at_ : Int) (tk : List Int) (b : Int) (g : Nat) (hg : sz ≤ g) : ∀ q ∈ (C.grow at_ tk b g).N, (∃ r ∈ C0.N, r.2 = q.2) ∨ sz ≤ q.2 := by
  intro q hq
  obtain ⟨r, hr, rfl⟩ := List.mem_map.1 hq
  obtain ⟨s, hs, rfl⟩ := List.mem_map.1 hr
  rcases List.mem_append.1 hs with h1 | h1
  · exact h s h1
  · rw [List.mem_singleton] at h1
    subst h1
    exact .inr hg
theorem Ca.mid_none {w : World} {A : Adc} {C : Cs} {at_ : Int} {tk : List Int} {x b : Int} {g : Nat} (h : Ca w A { C with last := x, N := C.N ++ [(newN at_ tk x b, g)] }) (hn : nm (C.N ++ [(newN at_ tk x b, g)]) at_ = none) : Ca w A (C.mid at_ tk x b g) := by
  have := kid_none (c := 1) hn
  unfold Cs.mid
  rw [this]
  exact h
theorem Ca.mid_some {w : World} {A : Adc} {C : Cs} {at_ : Int} {tk : List Int} {x b : Int} {g : Nat} (h : Ca w A { C with last := x, N := C.N ++ [(newN at_ tk x b, g)] }) {u : Nd × Nat} (hn : nm (C.N ++ [(newN at_ tk x b, g)]) at_ = some u) : Ca (w.setCell ⟨u.2, 19, none⟩ (.int .i64 (u.1.kids + 1))) A (C.mid at_ tk x b g) := by
  have hu := nm_some hn
  have := h.kid (q := u) hu.1 1
  rw [hu.2] at this
  exact this
/-- What the new node's cells say before its time is set. -/
theorem Ca.mid_node {w : World} {A : Adc} {C : Cs} {at_ : Int} {tk : List Int} {x b : Int} {g : Nat} (h : Ca w A (C.mid at_ tk x b g)) : (∃ v, w.cell? ⟨g, 20, none⟩ = some v) ∧ w.cell? ⟨g, 17, none⟩ = some (.int .i64 x) ∧ w.frozen? ⟨g, 20, none⟩ = false ∧ w.cell? ⟨A.c, 5, none⟩ = some (.int .i64 C.now) := by
  have hm : ((kidF at_ 1 (newN at_ tk x b), g) : Nd × Nat) ∈ (C.mid at_ tk x b g).N := by
    unfold Cs.mid upd
    exact List.mem_map.2 ⟨(newN at_ tk x b, g), List.mem_append_right _ (List.mem_singleton.2 rfl), rfl⟩
  have h1 := h.at_node hm
  have h2 : (kidF at_ 1 (newN at_ tk x b)).name = x := (kidF_mild _ _).name _
  rw [h2] at h1
  exact ⟨⟨_, h1.2.2.2⟩, h1.1, blk_frozen (h.node _ hm) 20, h.fields.2.2.2.2.2⟩
theorem Ca.mid_use {w : World} {A : Adc} {C : Cs} {at_ : Int} {tk : List Int} {b : Int} {g : Nat} (h : Ca w A (C.mid at_ tk (C.last + 1) b g)) : Ca (w.setCell ⟨g, 20, none⟩ (.int .i64 C.now)) A (C.grow at_ tk b g) := by
  have hm : ((kidF at_ 1 (newN at_ tk (C.last + 1) b), g) : Nd × Nat) ∈ (C.mid at_ tk (C.last + 1) b g).N := by
    unfold Cs.mid upd
    exact List.mem_map.2 ⟨(newN at_ tk (C.last + 1) b, g), List.mem_append_right _ (List.mem_singleton.2 rfl), rfl⟩
  have h1 := h.use hm C.now
  have h2 : (kidF at_ 1 (newN at_ tk (C.last + 1) b)).name = C.last + 1 := (kidF_mild _ _).name _
  rw [h2] at h1
  exact h1
/-- The new node does not lie in the pool. -/
theorem Ca.mid_own {A : Adc} {C : Cs} {at_ : Int} {tk : List Int} {x b : Int} {g : Nat} : A.own (C.mid at_ tk x b g).N g := by
  refine .inr (.inr (.inr ⟨(kidF at_ 1 (newN at_ tk x b), g), ?_, rfl⟩))
  unfold Cs.mid upd
  exact List.mem_map.2 ⟨(newN at_ tk x b, g), List.mem_append_right _ (List.mem_singleton.2 rfl), rfl⟩
theorem rd_good {l : List Int} (h : ∀ x ∈ l, good x) (i : Int) (h0 : 0 ≤ i) (hi : i < l.length) : good (rd l i) := by
  unfold rd
  rw [List.getD_eq_getElem?_getD, List.getElem?_eq_getElem (by omega)]
  exact h _ (List.getElem_mem _)
#print axioms Ca.mid_use
end Go.Proofs.Ytomjfhlcploblaa.Pfx
