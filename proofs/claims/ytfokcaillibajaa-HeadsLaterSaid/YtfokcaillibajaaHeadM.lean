/- A function that holds several ranges over functions leaves: each mark among its deferred calls is taken, nothing comes of it. Conditions: the marks' blocks are shut by nobody else. -/
import Derived.Test.YtfokcaillibajaaHeadE
namespace Go.Proofs.Ytfokcaillibajaa.Heads
open Go.RowKit Go.Shelf
set_option linter.unusedVariables false
set_option linter.unusedSimpArgs false

def mark (D : Nat) : Deferred := { target := .collected D, args := #[] }
/-- The blocks of the ranges that are over. -/
structure Marks (ds : List Nat) (W : World) : Prop where
  nd : ds.Nodup
  at_ : ∀ D, D ∈ ds → W.heap[D]? = some (.deferred (some []))
theorem Marks.nil (W : World) : Marks [] W := ⟨List.nodup_nil, fun D h => absurd h List.not_mem_nil⟩
theorem Marks.lt {ds : List Nat} {W : World} (h : Marks ds W) : ∀ D, D ∈ ds → D < W.heap.size := fun D hD => (Array.getElem?_eq_some_iff.1 (h.at_ D hD)).1
theorem Marks.keeps {ds : List Nat} {W W' : World} (h : Marks ds W) (hk : KeepsOthers W W') : Marks ds W' := ⟨h.nd, fun D hD => hk.same D _ (h.at_ D hD) rfl⟩
theorem Marks.below {ds : List Nat} {W W' : World} (h : Marks ds W) (hb : Below W.heap.size W W') : Marks ds W' := ⟨h.nd, fun D hD => (hb.block D (h.lt D hD)).trans (h.at_ D hD)⟩
theorem Marks.setCell {ds : List Nat} {W : World} (h : Marks ds W) (a : Addr) (v : Value) : Marks ds (W.setCell a v) := h.keeps (KeepsOthers.setCell _ _ _)
theorem Marks.snoc {ds : List Nat} {W : World} (h : Marks ds W) {D : Nat} (hD : ∀ x, x ∈ ds → x < D) (hK : W.heap[D]? = some (.deferred (some []))) : Marks (D :: ds) W :=
  ⟨List.nodup_cons.2 ⟨fun hm => Nat.lt_irrefl _ (hD D hm), h.nd⟩, fun x hx => by
    rcases List.mem_cons.1 hx with rfl | hx
    · exact hK
    · exact h.at_ x hx⟩
theorem marks_own {β : Type} (B : Nat) (ds : List Nat) (hB : ∀ D, D ∈ ds → D < B) : OwnFrom B (fun (_ : β) W => Marks ds W) := fun _ W W' row hs hg hr =>
  ⟨hs.nd, fun D hD => (hg.block D (hs.lt D hD) (fun e => by have := (hr D e.symm).1; have := hB D hD; omega)).trans (hs.at_ D hD)⟩
theorem leaves_marks {F : Fence} {n : Nat} {P : Program} {fn : Func} {tmps : Array Value} {R : Ending → World → Prop} (n₀ : Nat) : ∀ (ds : List Nat) (w : World), Marks ds w → (∀ D, D ∈ ds → n₀ ≤ D) → n₀ ≤ w.heap.size →
    (∀ w', Below n₀ w w' → ∃ v, (results fn tmps).run P w' = .ok v w' ∧ R (.returned v) w') → LeavesInM F n P fn tmps R (ds.map mark) .returning w
  | [], w, _, _, _, h => h w (Below.refl _ _)
  | D :: ds, w, hm, hn, hs, h => by
    have hD := hm.at_ D List.mem_cons_self
    refine ⟨by simp, .inl ⟨D, _, rfl, run_takeDeferred hD, ?_⟩⟩
    have hb : Below n₀ w (w.putObj D (.deferred none)) := (Below.refl n₀ w).grown (grownBy_putObj' w D _) hs (fun k e => by cases e; exact hn D List.mem_cons_self)
    refine leaves_marks n₀ ds _ ⟨(List.nodup_cons.1 hm.nd).2, fun x hx => ?_⟩ (fun x hx => hn x (List.mem_cons_of_mem _ hx)) (by simpa using hs) (fun w' hb' => h w' (hb.trans hb'))
    have hne : x ≠ D := fun e => (List.nodup_cons.1 hm.nd).1 (e ▸ hx)
    exact (World.putObj_heap_other hne).trans (hm.at_ x (List.mem_cons_of_mem _ hx))
#print axioms leaves_marks
end Go.Proofs.Ytfokcaillibajaa.Heads
