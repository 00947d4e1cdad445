/- (*Cache).Shrink: the least lately used go, one by one. Conditions: none. -/
import Derived.Test.YtomjfhlcploblaaPfxF
namespace Go.Proofs.Ytomjfhlcploblaa.Pfx
open Go.RowKit Go.Proofs.YtomjfhlcploblaaW.PrintWords Go.Proofs.YtomjfhlcploblaaW.PrintMore Go.Proofs.Ytomjfhlcploblaa.Pool Go.Proofs.Ytomjfhlcploblaa.MapsV
open Go.Maps (Keyed)
set_option linter.unusedVariables false
set_option linter.unusedSimpArgs false

def without (N : List (Nd × Nat)) (x : Int) : List (Nd × Nat) := N.filter fun q => !decide (q.1.name = x)
def Cs.del (C : Cs) (q : Nd × Nat) : Cs := { N := upd (kidF q.1.up (-1)) (without C.N q.1.name), last := C.last, now := C.now }
def Steps : Nat → Cs → Pl → Cs → Pl → Prop
  | 0, C, S, C', S' => C' = C ∧ S' = S
  | k + 1, C, S, C', S' => ∃ C1 S1, Steps k C S C1 S1 ∧ ∃ q, IsOld C1.N S1 (some q) ∧ C' = C1.del q ∧ S' = S1.dropS q.1.block
theorem mem_without {N : List (Nd × Nat)} {x : Int} {q : Nd × Nat} : q ∈ without N x ↔ q ∈ N ∧ q.1.name ≠ x := by
  unfold without
  simp
theorem names_without (N : List (Nd × Nat)) (x : Int) : ldel (namesOf N) x = namesOf (without N x) := by
  unfold ldel namesOf without
  rw [List.filter_map]
  rfl
theorem filter_same {α : Type} (f g : α → Bool) : ∀ (l : List α), (∀ a ∈ l, f a = g a) → l.filter f = l.filter g
  | [], _ => rfl
  | a :: l, h => by
    rw [List.filter_cons, List.filter_cons, h a (by simp), filter_same f g l (fun b hb => h b (by simp [hb]))]
theorem keys_without {N : List (Nd × Nat)} {q : Nd × Nat} (hq : q ∈ N) (hk : ((keysOf N).map (·.1)).Nodup) (hn : (N.map fun q => q.1.name).Nodup) : ldel (keysOf N) (q.1.up, q.1.toks) = keysOf (without N q.1.name) := by
  unfold ldel keysOf without
  rw [List.filter_map]
  congr 1
  refine filter_same _ _ _ fun r hr => ?_
  have hsame : ∀ {β : Type} (f : Nd × Nat → β), (N.map f).Nodup → f r = f q → r = q := fun f hnd e => by
    rcases List.getElem?_of_mem hr with ⟨j, hj⟩
    rcases List.getElem?_of_mem hq with ⟨k, hk⟩
    have hp := List.pairwise_iff_getElem.1 hnd
    have bj : j < (N.map f).length := by rw [List.length_map]; exact (List.getElem?_eq_some_iff.1 hj).1
    have bk : k < (N.map f).length := by rw [List.length_map]; exact (List.getElem?_eq_some_iff.1 hk).1
    have ej := (List.getElem?_eq_some_iff.1 hj).2
    have ek := (List.getElem?_eq_some_iff.1 hk).2
    rcases Nat.lt_trichotomy j k with hlt | heq | hgt
    · have := hp j k bj bk hlt
      simp [ej, ek, e] at this
    · subst heq
      rw [← ej, ← ek]
    · have := hp k j bk bj hgt
      simp [ej, ek, e] at this
  rw [keysOf, List.map_map] at hk
  simp only [Function.comp]
  by_cases e : r.1.name = q.1.name
  · have := hsame (fun q => q.1.name) hn e
    subst this
    simp
  · have hne : (r.1.up, r.1.toks) ≠ (q.1.up, q.1.toks) := fun h => e (by rw [hsame _ hk h])
    simp [e, hne]
/-- A node is struck out of both maps. -/
theorem Ca.strike {w w1 w2 : World} {A : Adc} {C : Cs} {q : Nd × Nat} (h : Ca w A C) (hq : q ∈ C.N) (h1 : HasMap Try.prog 147 ekey eptr w1 A.b (ldel (keysOf C.N) (q.1.up, q.1.toks))) (g1 : w.grownBy w1 (some A.b)) (h2 : HasMap Try.prog 3 (Value.int .i64) eptr w2 A.n (ldel (namesOf C.N) q.1.name)) (g2 : w1.grownBy w2 (some A.n)) : Ca w2 A { C with N := without C.N q.1.name } := by
  have hblk : ∀ {k : Nat} {cs : Array Value} {t : Nat}, w.heap[k]? = some (.cells cs t (0, 0)) → w2.heap[k]? = some (.cells cs t (0, 0)) := fun {k cs t} hk => by
    have hlt := blk_lt hk
    have hb : k ≠ A.b := by
      rintro rfl
      obtain ⟨es, clock, hb, _⟩ := h.keys
      rw [hk] at hb
      cases hb
    have hn : k ≠ A.n := by
      rintro rfl
      obtain ⟨es, clock, hb, _⟩ := h.names
      rw [hk] at hb
      cases hb
    rw [g2.block k (Nat.lt_of_lt_of_le hlt g1.size) (by intro e; injection e with e; exact hn e), g1.block k hlt (by intro e; injection e with e; exact hb e)]
    exact hk
  refine ⟨hblk h.box, ?_, ?_, fun r hr => hblk (h.node r (mem_without.1 hr).1), fun r hr => h.len r (mem_without.1 hr).1, h.bn⟩
  · rw [← keys_without hq h.keys.nodup h.names_nodup]
    exact h1.grown g2 (fun e => by injection e with e; exact h.bn e)
  · rw [← names_without]
    exact h2
#print axioms Ca.strike
end Go.Proofs.Ytomjfhlcploblaa.Pfx
