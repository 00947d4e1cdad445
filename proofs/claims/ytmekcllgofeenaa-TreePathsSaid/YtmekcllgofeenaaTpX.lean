/- A range over an iterator that hands over new memory, and that may itself range over another: the contract (what each value is told with), the caller's law. Conditions: none. -/
import Derived.RangeFuncNested
import Derived.RangeFuncBound
import Derived.RangeFuncCalls
import Derived.RangeFuncLeaves
import Derived.Shelf.Abstract
import Derived.Shelf.RegionOpen
import Derived.WalkKit
import Derived.OwnWalkIn
import Derived.TacticsInMore
import Derived.LoopNIn
import Derived.LoopIn
namespace Go.Proofs.Ytmekcllgofeenaa.Tp
open Go.RowKit Go.Shelf
set_option linter.unusedVariables false

theorem name_w {X : World → Prop} {W0 : World} (h : ∀ W, W = W0 → X W) : X W0 := h _ rfl
/-- All that is no cells, but one block, lies as it lay. -/
structure KeepsBut (l : Nat) (W W' : World) : Prop where
  size : W.heap.size ≤ W'.heap.size
  same : ∀ (k : Nat) (o : Obj), k ≠ l → W.heap[k]? = some o → o.isCells = false → W'.heap[k]? = some o
theorem KeepsBut.refl (l : Nat) (W : World) : KeepsBut l W W := ⟨Nat.le_refl _, fun _ _ _ h _ => h⟩
theorem KeepsBut.from {l B : Nat} {W W' : World} (h : KeepsBut l W W') (hl : l < B) : KeepsFrom B W W' := ⟨h.size, fun k o hk => h.same k o (by omega)⟩
/-- All cells, but those of one block, stand as they stood. -/
structure KpC (b : Nat) (W W' : World) : Prop where
  size : W.heap.size ≤ W'.heap.size
  same : ∀ (k : Nat) (cs : Array Value) (t : TypeId) (fr : Nat × Nat), k ≠ b → W.heap[k]? = some (.cells cs t fr) → W'.heap[k]? = some (.cells cs t fr)
theorem KpC.refl (b : Nat) (W : World) : KpC b W W := ⟨Nat.le_refl _, fun _ _ _ _ _ h => h⟩
theorem KpC.trans {b : Nat} {A B C : World} (h : KpC b A B) (g : KpC b B C) : KpC b A C := ⟨Nat.le_trans h.size g.size, fun k cs t fr hk h1 => g.same k cs t fr hk (h.same k cs t fr hk h1)⟩
theorem KpC.putObj {b : Nat} (W : World) (l : Nat) (o o' : Obj) (h : W.heap[l]? = some o) (ho : o.isCells = false) : KpC b W (W.putObj l o') :=
  ⟨by simp, fun k cs t fr _ hk => (World.putObj_heap_other (fun e => by
    subst e
    rw [h] at hk
    cases hk
    cases ho)).trans hk⟩
theorem KpC.setCell {b : Nat} (W : World) (i : Nat) (v : Value) : KpC b W (W.setCell ⟨b, i, none⟩ v) := ⟨by simp [World.setCell], fun k cs t fr hk h => (Below.heap_setCell W ⟨b, i, none⟩ v k hk).trans h⟩
theorem KpC.of_below {b : Nat} {W W' : World} (h : Below W.heap.size W W') : KpC b W W' := ⟨h.size, fun k cs t fr _ hk => (h.block k (Array.getElem?_eq_some_iff.1 hk).1).trans hk⟩
theorem KpC.cells {b : Nat} {W W' : World} (h : KpC b W W') {a : Addr} {v : Value} (ha : a.block ≠ b) (hc : W.cell? a = some v) : W'.cell? a = some v := by
  have hb : ∃ cs t fr, W.heap[a.block]? = some (.cells cs t fr) := by
    simp only [World.cell?] at hc
    split at hc
    · rename_i cs t fr he
      exact ⟨_, _, _, he⟩
    · cases hc
  obtain ⟨cs, t, fr, hb⟩ := hb
  exact (World.cell?_of_block ((h.same _ _ _ _ ha hb).trans hb.symm)).trans hc

/-- The contract of such an iterator, under the wide fence. -/
def SeqX {α : Type} (n : Nat) (P : Program) (g : Nat) (lb : Array Value) (encs : α → Array Value) (Kp : World → World → Prop) (Fact : α → World → Prop) (S Sp : List α → Prop) (N : Nat) (w : World) : Prop :=
  ∀ (l : Nat) (J Jx : List α → World → Prop) (W : World), Below w.heap.size w W → l < W.heap.size → OwnFrom W.heap.size J → OwnFrom W.heap.size Jx →
    (∀ pre x W1, J pre W1 → Fact x W1 → pre.length < N → YieldAt Fence.wide (n - 1) P l (encs x) W1 fun e W' =>
      (e = .returned (.bool true) ∧ J (pre ++ [x]) W' ∧ Kp W1 W' ∧ KeepsBut l W1 W') ∨ (e = .returned (.bool false) ∧ Jx (pre ++ [x]) W' ∧ KeepsBut l W1 W')) →
    J [] W →
    CallsIn Fence.wide n P g (#[.func (.yield l) #[] #[]] ++ lb) W fun e W' => (∃ v, e = .returned v) ∧ ((∃ xs, S xs ∧ J xs W') ∨ (∃ pre, Sp pre ∧ Jx pre W'))

theorem but_of {l : Nat} {W W3 : World} {o1 o2 : Obj} (h : KeepsOthers (W.putObj l o1) W3) : KeepsBut l W (W3.putObj l o2) :=
  ⟨by have := h.size; simp at this ⊢; exact this, fun k o hk h1 ho => (World.putObj_heap_other (fun e => hk e)).trans (h.same k o ((World.putObj_heap_other (fun e => hk e)).trans h1) ho)⟩

/-- The caller's law. -/
theorem rangeX {n : Nat} {P : Program} {α : Type} {g : Operand} {ps : Array Tmp} {assign body : Code} {Q : Exit → Act → World → Prop} {a : Act} {w : World}
    (h1 : 1 ≤ n) {gf : Nat} {lb : Array Value} (hg : a.eval g = .func (.func gf) #[] lb) (eg : ∀ args w, (callFunc gf args).run P w = .ok (.enter gf args) w)
    {encs : α → Array Value} {Kp : World → World → Prop} {Fact : α → World → Prop} {S Sp : List α → Prop} {N : Nat} {w0 : World} (hseq : SeqX (n - 1) P gf lb encs Kp Fact S Sp N w0)
    (hKt : ∀ {A B C : World}, Kp A B → Kp B C → Kp A C) (hKb : ∀ (W : World) (l : Nat) (o o' : Obj), W.heap[l]? = some o → o.isCells = false → Kp W (W.putObj l o'))
    (hFb : ∀ (x : α) (W : World) (l : Nat) (o o' : Obj), W.heap[l]? = some o → o.isCells = false → Fact x W → Fact x (W.putObj l o')) (hb0 : Below w0.heap.size w0 w) (hps : ∀ x, (encs x).size = ps.size)
    (I : List α → World → Prop) (Ix : Code → List α → World → Prop) (hI : OwnFrom w.heap.size I) (hIx : ∀ c, OwnFrom w.heap.size (Ix c)) (h0 : I [] w) (a₁ : α → Act)
    (hassign : ∀ (l : Nat) (x : α) (W : World) (K : Act → World → Prop), K (a₁ x) W →
      assign.wpIn (Fence.wide.inRound l) (n - 1 - 1) P (Exit.then K (fun _ _ _ => False)) { tmps := (ps.zip (encs x)).foldl (fun t (p, v) => t.setIfInBounds p v) a.tmps, defers := [] } W)
    (hbody : ∀ (l : Nat) (pre : List α) (x : α) (W : World), I pre W → Fact x W → pre.length < N → body.wpIn (Fence.wide.inRound l) (n - 1 - 1) P (ownPostK Kp I Ix (pre ++ [x]) W) (a₁ x) W)
    (hdone : ∀ (D : Nat) (xs : List α) (W : World), w.heap.size ≤ D → S xs → I xs W → W.heap[D]? = some (.deferred (some [])) → Q .normal { a with defers := { target := .collected D, args := #[] } :: a.defers } W)
    (hstop : ∀ (D : Nat) (c : Code) (pre : List α) (W : World), w.heap.size ≤ D → Sp pre → Ix c pre W → W.heap[D]? = some (.deferred (some [])) → c.wpIn Fence.wide n P Q { a with defers := { target := .collected D, args := #[] } :: a.defers } W) :
    (Code.rangeFunc g ps assign body).wpIn Fence.wide n P Q a w := by
  refine wpIn_rangeFunc fun fn hfn => ?_
  rw [show Fence.wide.round = none from rfl]
  obtain ⟨L, hL⟩ : ∃ L, L = w.heap.size + 1 := ⟨_, rfl⟩
  obtain ⟨rec, hrec⟩ : ∃ rec : LoopState → Option Code → Loop, rec = fun st pe => { state := st, pending := pe, fn, tmps := a.tmps, params := ps, assign, body, defers := w.heap.size } := ⟨_, rfl⟩
  obtain ⟨V, hV⟩ : ∃ V, V = (w.alloc (.deferred (some []))).alloc (.loop (rec .ready none)) := ⟨_, rfl⟩
  have hVs : V.heap.size = L + 1 := by rw [hV, hL]; simp
  have cL : V.heap[L]? = some (.loop (rec .ready none)) := by
    have := World.alloc_heap_new (w.alloc (.deferred (some []))) (.loop (rec .ready none))
    rw [World.size_alloc] at this
    rw [hV, hL]; exact this
  have cD : V.heap[w.heap.size]? = some (.deferred (some [])) := by
    rw [hV]; exact (Below.heap_alloc _ _ _ (by simp)).trans (World.alloc_heap_new w _)
  have hIV : I [] V := by rw [hV]; exact hI.alloc _ (hI.alloc _ h0)
  have hbV : Below w0.heap.size w0 V := by
    rw [hV]; exact hb0.trans ((((Below.refl _ w).alloc (Nat.le_refl _) _).alloc (by simp) _).mono hb0.size)
  have hent : (Instr.enterLoop fn a.tmps ps assign body none).run P w = .ok (L, [{ target := .collected w.heap.size, args := #[] }]) V := by
    rw [hV, hrec, hL]; exact run_enterLoop_outer _ _ _ _ _
  clear hV
  refine ⟨L, _, V, { target := .fn (.func gf) lb, args := #[.func (.yield L) #[] #[]] }, V, gf, #[.func (.yield L) #[] #[]] ++ lb, V, hent, ?_, fun _ _ => trivial, ?_, fun _ => h1, ?_⟩
  · simp only [resolve, hg]
    simp [go_sem]
  · simp [invoke, go_sem, eg]
  · have hup : ∀ {A : World} {row : Option Nat}, (∀ r, row = some r → V.heap.size ≤ r ∧ ∃ o : Obj, A.heap[r]? = some o ∧ o.isCells = false) → (∀ r, row = some r → w.heap.size ≤ r ∧ ∃ o : Obj, A.heap[r]? = some o ∧ o.isCells = false) := fun hr r e => ⟨by have := (hr r e).1; omega, (hr r e).2⟩
    have hst : ∀ {A B : World} {row : Option Nat} {k : Nat} {o : Obj}, A.grownBy B row → (∀ r, row = some r → V.heap.size ≤ r ∧ ∃ o : Obj, A.heap[r]? = some o ∧ o.isCells = false) → k < V.heap.size → A.heap[k]? = some o → B.heap[k]? = some o := fun hg' hr hk ho =>
      (hg'.block _ (Array.getElem?_eq_some_iff.1 ho).1 (fun e => by have := (hr _ e.symm).1; omega)).trans ho
    refine (hseq L (fun pre W => I pre W ∧ W.heap[L]? = some (.loop (rec .ready none)) ∧ W.heap[w.heap.size]? = some (.deferred (some [])))
      (fun pre W => ∃ c, Ix c pre W ∧ W.heap[L]? = some (.loop (rec .done (some c))) ∧ W.heap[w.heap.size]? = some (.deferred (some []))) V hbV (by omega)
      (fun s A B row hs hg' hr => ⟨hI s A B row hs.1 hg' (hup hr), hst hg' hr (by omega) hs.2.1, hst hg' hr (by omega) hs.2.2⟩)
      (fun s A B row ⟨c, hc, hl, hk⟩ hg' hr => ⟨c, hIx c s A B row hc hg' (hup hr), hst hg' hr (by omega) hl, hst hg' hr (by omega) hk⟩) ?_ ⟨hIV, cL, cD⟩).mono ?_
    · rintro pre x W ⟨hi, hl, hk⟩ hf hlen
      have hlt : L < W.heap.size := (Array.getElem?_eq_some_iff.1 hl).1
      have hy := run_yield (P := P) (args := encs x) hl (by rw [hrec]; exact hps x)
      rw [hrec] at hy
      obtain ⟨W2, hW2⟩ : ∃ W2, W2 = W.putObj L (.loop { rec .ready none with state := .busy }) := ⟨_, rfl⟩
      have l2 : W2.heap[L]? = some (.loop { rec .ready none with state := .busy }) := by rw [hW2]; exact World.putObj_heap_same hlt
      have d2 : W2.heap[w.heap.size]? = some (.deferred (some [])) := by rw [hW2]; exact (World.putObj_heap_other (by omega)).trans hk
      have k2 : Kp W W2 := by rw [hW2]; exact hKb _ _ _ _ hl rfl
      have i2 : I pre W2 := by rw [hW2]; exact hI.putObj _ hi (by omega) hl rfl
      have f2 : Fact x W2 := by rw [hW2]; exact hFb _ _ _ _ _ hl rfl hf
      have hbeg := run_beginRound (P := P) hl (by rw [hrec])
      refine ⟨fn, _, assign, body, hy, roundIn_of_wpIn hfn (hassign _ x W _ ⟨_, hbeg, ?_⟩)⟩
      rw [← hW2]
      refine wpIn_mono (hbody _ pre x _ i2 f2 hlen) ?_
      have leave : ∀ (jump : Option Code) (W3 : World), KeepsOthers W2 W3 → ∃ W4, (Instr.endRound L jump).run P W3 = .ok (.bool jump.isNone) W4 ∧ W4 = W3.putObj L (.loop (rec (if jump.isNone then .ready else .done) jump)) ∧ W3.heap[L]? = some (.loop { rec .ready none with state := .busy }) ∧ W4.heap[L]? = some (.loop (rec (if jump.isNone then .ready else .done) jump)) ∧ W4.heap[w.heap.size]? = some (.deferred (some [])) ∧ KeepsBut L W W4 := fun jump W3 hk3 => by
        have l3 := hk3.same _ _ l2 rfl
        have he := run_endRound (P := P) jump l3
        rw [hrec] at he ⊢
        refine ⟨_, he, rfl, by rw [hrec] at l3; exact l3, World.putObj_heap_same (Array.getElem?_eq_some_iff.1 l3).1, (World.putObj_heap_other (by omega)).trans (hk3.same _ _ d2 rfl), ?_⟩
        rw [hW2] at hk3
        exact but_of hk3
      rintro e a3 W3 hp
      cases e with
      | normal =>
        obtain ⟨hk3, hkp3, hi3⟩ := hp
        obtain ⟨W4, hr, e4, l3, l4, d4, kb⟩ := leave none W3 hk3
        exact ⟨_, W4, hr, .inl ⟨rfl, ⟨by rw [e4]; exact hI.putObj _ hi3 (by omega) l3 rfl, l4, d4⟩, by rw [e4]; exact hKt (hKt k2 hkp3) (hKb _ _ _ _ l3 rfl), kb⟩⟩
      | ret =>
        obtain ⟨hk3, hi3⟩ := hp
        obtain ⟨W4, hr, e4, l3, l4, d4, kb⟩ := leave (some .ret) W3 hk3
        exact ⟨_, W4, hr, .inr ⟨rfl, ⟨.ret, by rw [e4]; exact (hIx _).putObj _ hi3 (by omega) l3 rfl, l4, d4⟩, kb⟩⟩
      | exit id =>
        obtain ⟨hk3, hi3⟩ := hp
        obtain ⟨W4, hr, e4, l3, l4, d4, kb⟩ := leave (some (.exit id)) W3 hk3
        exact ⟨_, W4, hr, .inr ⟨rfl, ⟨.exit id, by rw [e4]; exact (hIx _).putObj _ hi3 (by omega) l3 rfl, l4, d4⟩, kb⟩⟩
      | goto t =>
        obtain ⟨hk3, hi3⟩ := hp
        obtain ⟨W4, hr, e4, l3, l4, d4, kb⟩ := leave (some (.goto t)) W3 hk3
        exact ⟨_, W4, hr, .inr ⟨rfl, ⟨.goto t, by rw [e4]; exact (hIx _).putObj _ hi3 (by omega) l3 rfl, l4, d4⟩, kb⟩⟩
      | panic ch => exact hp.elim
      | outgrown => exact hp.elim
    · rintro e W2 ⟨⟨v, rfl⟩, (⟨xs, hS, hi, hl, hk⟩ | ⟨pre, hSp, c, hi, hl, hk⟩)⟩
      · have he := run_endLoop (P := P) hl (by rw [hrec]; simp)
        rw [hrec] at he
        exact ⟨none, _, he, hdone _ xs _ (Nat.le_refl _) hS (hI.putObj _ hi (by omega) hl rfl) ((World.putObj_heap_other (by omega)).trans hk)⟩
      · have he := run_endLoop (P := P) hl (by rw [hrec]; simp)
        rw [hrec] at he
        exact ⟨some c, _, he, hstop _ c pre _ (Nat.le_refl _) hSp ((hIx c).putObj _ hi (by omega) hl rfl) ((World.putObj_heap_other (by omega)).trans hk)⟩
#print axioms rangeX
end Go.Proofs.Ytmekcllgofeenaa.Tp
