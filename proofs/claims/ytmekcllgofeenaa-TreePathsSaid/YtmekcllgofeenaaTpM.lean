/- The marks of ranges that are over; a cut behind a range; a frame with letters. Conditions: none. -/
import Derived.Test.YtmekcllgofeenaaTpB
namespace Go.Proofs.Ytmekcllgofeenaa.Tp
open Go.RowKit Go.Shelf
set_option linter.unusedVariables false
set_option linter.unusedSimpArgs false

def mark (D : Nat) : Deferred := { target := .collected D, args := #[] }
/-- The blocks of the ranges that are over. -/
structure Marks (ds : List Nat) (W : World) : Prop where
  nd : ds.Nodup
  at_ : ∀ D, D ∈ ds → W.heap[D]? = some (.deferred (some []))
theorem Marks.nil (W : World) : Marks [] W := ⟨List.nodup_nil, fun D h => absurd h List.not_mem_nil⟩
theorem Marks.lt {ds : List Nat} {W : World} (h : Marks ds W) : ∀ D, D ∈ ds → D < W.heap.size := fun D hD => (Array.getElem?_eq_some_iff.1 (h.at_ D hD)).1
theorem Marks.keeps {ds : List Nat} {W W' : World} (h : Marks ds W) (hk : KeepsOthers W W') : Marks ds W' := ⟨h.nd, fun D hD => hk.same D _ (h.at_ D hD) rfl⟩
theorem Marks.below {ds : List Nat} {W W' : World} (h : Marks ds W) (hb : Below W.heap.size W W') : Marks ds W' := ⟨h.nd, fun D hD => (hb.block D (h.lt D hD)).trans (h.at_ D hD)⟩
theorem Marks.setCell {ds : List Nat} {W : World} (h : Marks ds W) (a : Addr) (v : Value) : Marks ds (W.setCell a v) := h.keeps (KeepsOthers.setCell _ _ _)
theorem Marks.snoc {ds : List Nat} {W : World} (h : Marks ds W) {D : Nat} (hD : ∀ x, x ∈ ds → x < D) (hK : W.heap[D]? = some (.deferred (some []))) : Marks (D :: ds) W :=
  ⟨List.nodup_cons.2 ⟨fun hm => Nat.lt_irrefl _ (hD D hm), h.nd⟩, fun x hx => by
    rcases List.mem_cons.1 hx with rfl | hx
    · exact hK
    · exact h.at_ x hx⟩
theorem marks_own {β : Type} (B : Nat) (ds : List Nat) (hB : ∀ D, D ∈ ds → D < B) : OwnFrom B (fun (_ : β) W => Marks ds W) := fun _ W W' row hs hg hr =>
  ⟨hs.nd, fun D hD => (hg.block D (hs.lt D hD) (fun e => by have := (hr D e.symm).1; have := hB D hD; omega)).trans (hs.at_ D hD)⟩
/-- Nothing but blocks that are no cells has turned. -/
def Kc (w w' : World) : Prop := ∀ (k : Nat) (cs : Array Value) (t : TypeId) (fr : Nat × Nat), w.heap[k]? = some (.cells cs t fr) → w'.heap[k]? = some (.cells cs t fr)
theorem leaves_marks2 {F : Fence} {n : Nat} {P : Program} {fn : Func} {tmps : Array Value} {R : Ending → World → Prop} (n₀ : Nat) : ∀ (ds : List Nat) (w : World), Marks ds w → (∀ D, D ∈ ds → n₀ ≤ D) → n₀ ≤ w.heap.size →
    (∀ w', Below n₀ w w' → Kc w w' → ∃ v, (results fn tmps).run P w' = .ok v w' ∧ R (.returned v) w') → LeavesInM F n P fn tmps R (ds.map mark) .returning w
  | [], w, _, _, _, h => h w (Below.refl _ _) (fun _ _ _ _ h => h)
  | D :: ds, w, hm, hn, hs, h => by
    have hD := hm.at_ D List.mem_cons_self
    refine ⟨by simp, .inl ⟨D, _, rfl, run_takeDeferred hD, ?_⟩⟩
    have hb : Below n₀ w (w.putObj D (.deferred none)) := (Below.refl n₀ w).grown (grownBy_putObj' w D _) hs (fun k e => by cases e; exact hn D List.mem_cons_self)
    refine leaves_marks2 n₀ ds _ ⟨(List.nodup_cons.1 hm.nd).2, fun x hx => ?_⟩ (fun x hx => hn x (List.mem_cons_of_mem _ hx)) (by simpa using hs) (fun w' hb' hk' => h w' (hb.trans hb') (fun k cs t fr hk => hk' k cs t fr ?_))
    · have hne : x ≠ D := fun e => (List.nodup_cons.1 hm.nd).1 (e ▸ hx)
      exact (World.putObj_heap_other hne).trans (hm.at_ x (List.mem_cons_of_mem _ hx))
    · refine (World.putObj_heap_other ?_).trans hk
      rintro rfl
      rw [hD] at hk
      cases hk
structure Shaped (Y : (Nat → Value) → Act) (a : Act) : Prop where
  ex : ∃ y, a = Y y
theorem Shaped.of {Y : (Nat → Value) → Act} {T : Array Value} {ds : List Deferred} (h : (⟨T, ds⟩ : Act) = Y (fun k => T.getD k undef)) : Shaped Y ⟨T, ds⟩ := ⟨_, h⟩
theorem wpIn_cut {F : Fence} {n : Nat} {P : Program} {c : Code} {id : Nat} {K : Act → World → Prop} {Q' : Exit → Act → World → Prop} {a : Act} {w : World} (G : Nat → World → Prop)
    (h : c.wpIn F n P (fun e a' W => (e = .normal ∨ e = .exit id) ∧ ∃ D, a' = { a with defers := mark D :: a.defers } ∧ G D W) a w) (hq : ∀ D W, G D W → K { a with defers := mark D :: a.defers } W) : c.wpIn F n P (Exit.inBlock id (Exit.then K Q')) a w :=
  wpIn_mono h (by
    rintro e a' W ⟨rfl | rfl, D, rfl, g⟩
    · exact hq D W g
    · simpa [Exit.inBlock, Exit.then] using hq D W g)

/-- A frame with letters, a box of its own and marks. -/
structure Turn (Y : (Nat → Value) → Nat → List Nat → Act) (G : Nat → List Nat → World → Prop) (a : Act) (W : World) : Prop where
  ex : ∃ y rb ds, a = Y y rb ds ∧ G rb ds W
theorem Turn.of {Y : (Nat → Value) → Nat → List Nat → Act} {G : Nat → List Nat → World → Prop} {T : Array Value} {W : World} (rb : Nat) (ds : List Nat) {dd : List Deferred} (h : (⟨T, dd⟩ : Act) = Y (fun k => T.getD k undef) rb ds) (hG : G rb ds W) : Turn Y G ⟨T, dd⟩ W := ⟨_, rb, ds, h, hG⟩
/-- How many rounds are to come: 3 less what the box in a slot holds. -/
def tmu (s : Nat) (a : Act) (W : World) : Nat := match a.tmps.getD s undef with
  | .pointer (some p) => match W.cell? p with
    | some (.int _ r) => 3 - r.toNat
    | _ => 0
  | _ => 0
theorem tmu_is {s : Nat} {a : Act} {W : World} {b : Nat} {r : Int} (h1 : a.tmps.getD s undef = .pointer (some ⟨b, 0, none⟩)) (h2 : W.cell? ⟨b, 0, none⟩ = some (.int .i64 r)) : tmu s a W = 3 - r.toNat := by
  unfold tmu
  rw [h1]
  simp only [h2]
end Go.Proofs.Ytmekcllgofeenaa.Tp
