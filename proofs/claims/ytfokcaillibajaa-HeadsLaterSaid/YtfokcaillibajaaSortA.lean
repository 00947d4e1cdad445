/- A frame by blocks; a row of numbers in memory; the first two walks of the sort: swapping two stretches. Conditions: none. -/
import Derived.Test.YtfokcaillibajaaWWords
import Derived.Test.YtfokcaillibajaaChecked
import Derived.Test.YtfokcaillibajaaSortP
import Derived.Outline
import Derived.WalkLawsBesides
import Derived.BigRegion
import Derived.Lib.SliceRun
import Derived.Lib.Hide
import Derived.Deep.QuietTactic
import Derived.Deep.RegionHeld3
import Derived.BigQuiet
namespace Go.Proofs.Ytfokcaillibajaa.Srt
open Go.RowKit Go.Proofs.YtfokcaillibajaaW.PrintWords
set_option linter.unusedVariables false
set_option linter.unusedSimpArgs false

theorem name_world {X : World → Prop} {W : World} (h : ∀ w1, w1 = W → X w1) : X W := h W rfl
/-! ### a frame by blocks -/
/-- Of what lay there, only the blocks of own turn. -/
structure Ap (own : Nat → Prop) (w w' : World) : Prop where
  os : w'.os = w.os
  tape : w'.tape = w.tape
  output : w'.output = w.output
  size : w.heap.size ≤ w'.heap.size
  block : ∀ k, k < w.heap.size → ¬ own k → w'.heap[k]? = w.heap[k]?
theorem Ap.refl (own : Nat → Prop) (w : World) : Ap own w w := ⟨rfl, rfl, rfl, Nat.le_refl _, fun _ _ _ => rfl⟩
theorem Ap.trans {own : Nat → Prop} {w w1 w2 : World} (h : Ap own w w1) (g : Ap own w1 w2) : Ap own w w2 :=
  ⟨g.os.trans h.os, g.tape.trans h.tape, g.output.trans h.output, Nat.le_trans h.size g.size, fun k hk ho => (g.block k (Nat.lt_of_lt_of_le hk h.size) ho).trans (h.block k hk ho)⟩
/-- Blocks that are new to the first world may turn as they like. -/
theorem Ap.then {own own' : Nat → Prop} {w w1 w2 : World} (h : Ap own w w1) (g : Ap own' w1 w2) (ho : ∀ k, own' k → own k ∨ w.heap.size ≤ k) : Ap own w w2 :=
  ⟨g.os.trans h.os, g.tape.trans h.tape, g.output.trans h.output, Nat.le_trans h.size g.size, fun k hk hn =>
    (g.block k (Nat.lt_of_lt_of_le hk h.size) (fun h' => (ho k h').elim hn (fun h'' => by omega))).trans (h.block k hk hn)⟩
theorem Ap.mono {own own' : Nat → Prop} {w w' : World} (h : Ap own w w') (ho : ∀ k, own k → own' k) : Ap own' w w' :=
  ⟨h.os, h.tape, h.output, h.size, fun k hk hn => h.block k hk (fun h' => hn (ho k h'))⟩
theorem Ap.of_below {own : Nat → Prop} {w w' : World} (h : Below w.heap.size w w') : Ap own w w' := ⟨h.os, h.tape, h.output, h.size, fun k hk _ => h.block k hk⟩
theorem Ap.below {own : Nat → Prop} {w0 w w' : World} {B : Nat} (h0 : Below B w0 w) (h : Ap own w w') (ho : ∀ k, own k → B ≤ k) (hB : B ≤ w.heap.size) : Below B w0 w' :=
  h0.trans ⟨h.os, h.tape, h.output, h.size, fun k hk => h.block k (Nat.lt_of_lt_of_le hk hB) (fun h' => by have := ho k h'; omega)⟩
theorem Ap.alloc {own : Nat → Prop} {w w' : World} (h : Ap own w w') (o : Obj) : Ap own w (w'.alloc o) := h.trans (Ap.of_below (below_alloc (Below.refl _ _) o))
theorem Ap.drewN {own : Nat → Prop} {w w' : World} (h : Ap own w w') (n : Nat) : Ap own w (w'.drewN n) := h.trans (Ap.of_below (pw_below_drewN (Below.refl _ _) n))
theorem Ap.drew {own : Nat → Prop} {w w' : World} (h : Ap own w w') : Ap own w w'.drew := h.trans (Ap.of_below (below_drew (Below.refl _ _)))
theorem Ap.setCell {own : Nat → Prop} {w w' : World} (h : Ap own w w') {p : Addr} (hp : own p.block ∨ w.heap.size ≤ p.block) (u : Value) : Ap own w (w'.setCell p u) := by
  refine h.then (own' := fun k => k = p.block) ⟨rfl, rfl, rfl, by simp, fun k _ hn => Below.heap_setCell w' p u k hn⟩ (fun k e => ?_)
  subst e
  exact hp
theorem Ap.setRow {own : Nat → Prop} {w w' : World} (h : Ap own w w') {g : Nat} (hp : own g ∨ w.heap.size ≤ g) (cs : Array Value) : Ap own w (w'.setRow g cs) := by
  refine h.then (own' := fun k => k = g) ⟨rfl, rfl, rfl, by simp [World.setRow], fun k _ hn => setRow_other w' g k cs hn⟩ (fun k e => ?_)
  subst e
  exact hp
theorem Ap.setCells {own : Nat → Prop} {w w' : World} (h : Ap own w w') {g : Nat} (hp : own g ∨ w.heap.size ≤ g) (o : Nat) (vs : List Value) : Ap own w (w'.setCells g o vs) := by
  obtain ⟨h1, h2, h3, h4⟩ := setCells_same g vs o w'
  refine h.then (own' := fun k => k = g) ⟨h1, h2, h3, by rw [h4]; exact Nat.le_refl _, fun k _ hn => setCells_far vs o k hn⟩ (fun k e => ?_)
  subst e
  exact hp
theorem Ap.grown {own : Nat → Prop} {w w1 w2 : World} {row : Option Nat} (h : Ap own w w1) (hg : w1.grownBy w2 row) (hr : ∀ k, row = some k → own k ∨ w.heap.size ≤ k) : Ap own w w2 :=
  h.then (own' := fun k => row = some k) ⟨hg.os, hg.tape, hg.output, hg.size, fun k hk hn => hg.block k hk (fun e => hn e.symm)⟩ hr
theorem Ap.blk {own : Nat → Prop} {w w' : World} (h : Ap own w w') {g : Nat} {o : Obj} (hg : w.heap[g]? = some o) (hn : ¬ own g) : w'.heap[g]? = some o := (h.block g (blk_lt hg) hn).trans hg
theorem Ap.R {α : Type} {d : Kd α} {own ok : Nat → Prop} {w w' : World} {e base : Nat} {v : Value} {xs : List α} (h : Ap own w w') (hr : d.R e w base ok v xs) (hn : ∀ k, ok k → ¬ own k) : d.R e w' base ok v xs :=
  Kd.R_step hr (fun k ho hk => h.block k hk (hn k ho))
theorem blk_drewN {w : World} {g : Nat} {o : Obj} (h : w.heap[g]? = some o) (n : Nat) : (w.drewN n).heap[g]? = some o := h


theorem alloc_heap (W : World) (o : Obj) (k : Nat) : (W.alloc o).heap[k]? = if k = W.heap.size then some o else W.heap[k]? := by
  show (W.heap.push o)[k]? = _
  rw [Array.getElem?_push]
theorem al_at (W : World) (o : Obj) {k : Nat} (h : k = W.heap.size) : (W.alloc o).heap[k]? = some o := by rw [alloc_heap, if_pos h]
theorem al_old (W : World) (o : Obj) {k : Nat} (h : k < W.heap.size) : (W.alloc o).heap[k]? = W.heap[k]? := by rw [alloc_heap, if_neg (by omega)]
theorem Ap.cell {own : Nat → Prop} {w w' : World} (h : Ap own w w') {p : Addr} {v : Value} (hc : w.cell? p = some v) (hn : ¬ own p.block) : w'.cell? p = some v := by
  have hlt := World.block_lt_of_cell? w p hc
  have hb := h.block p.block hlt hn
  simp only [World.cell?] at hc ⊢
  rw [hb]
  exact hc

/-! ### a row of numbers -/
def Rw (w : World) (g : Nat) (L : List Int) : Prop := w.heap[g]? = some (.cells (nums .i64 L).toArray 3 (0, 0))
theorem Rw.cell {w : World} {g : Nat} {L : List Int} (h : Rw w g L) {i : Nat} (hi : i < L.length) : w.cell? ⟨g, i, none⟩ = some (.int .i64 (L.getD i 0)) := by
  rw [blk_cell h i]
  simp [nums, List.getElem?_eq_getElem hi, List.getD_eq_getElem?_getD]
theorem Rw.frozen {w : World} {g : Nat} {L : List Int} (h : Rw w g L) (i : Nat) : w.frozen? ⟨g, i, none⟩ = false := blk_frozen h i
theorem nums_set (L : List Int) (i : Nat) (x : Int) : (nums .i64 L).toArray.setIfInBounds i (.int .i64 x) = (nums .i64 (L.set i x)).toArray := by simp [nums, List.map_set]
theorem Rw.set {w : World} {g : Nat} {L : List Int} (h : Rw w g L) (i : Nat) (x : Int) : Rw (w.setCell ⟨g, i, none⟩ (.int .i64 x)) g (L.set i x) := by
  have h1 := blk_set h i (.int .i64 x)
  rw [nums_set] at h1
  exact h1
theorem Rw.swap {w : World} {g : Nat} {L : List Int} (h : Rw w g L) (i j : Nat) : Rw ((w.setCell ⟨g, i, none⟩ (.int .i64 (L.getD j 0))).setCell ⟨g, j, none⟩ (.int .i64 (L.getD i 0))) g (swap L i j) := (h.set i _).set j _
theorem Rw.drew {w : World} {g : Nat} {L : List Int} (h : Rw w g L) : Rw w.drew g L := h
theorem Rw.drewN {w : World} {g : Nat} {L : List Int} (h : Rw w g L) (n : Nat) : Rw (w.drewN n) g L := h
theorem Rw.heap {w w1 : World} {g : Nat} {L : List Int} (h : Rw w g L) (e : w1.heap = w.heap) : Rw w1 g L := by unfold Rw; rw [e]; exact h
theorem Ap.swap {w : World} {g i j : Nat} (x y : Value) : Ap (fun k => k = g) w ((w.setCell ⟨g, i, none⟩ x).setCell ⟨g, j, none⟩ y) := ((Ap.refl (fun k => k = g) w).setCell (p := ⟨g, i, none⟩) (.inl rfl) x).setCell (p := ⟨g, j, none⟩) (.inl rfl) y
def Sorts (g : Nat) (w : World) (X : List Int → Prop) (e : Ending) (w' : World) : Prop := e = .returned (.tuple #[]) ∧ (∃ L', Rw w' g L' ∧ X L') ∧ Ap (fun k => k = g) w w'

set_option maxHeartbeats 8000000 in
theorem swap_calls (g N c a b n : Nat) (L : List Int) (w : World) (hg : Rw w g L) (hL : L.length = N) (hb : b + n ≤ N) (hab : a + n ≤ b) (hN : N < 2305843009213693952) (F : Value) :
    Calls Try.prog 21 #[.slice (some ⟨g, 0, none⟩) N c, .int .i64 a, .int .i64 b, .int .i64 n, F] w (Sorts g w (fun L' => L' = swr L a b n)) := by
  have HG := Aside0.mk hg
  have HL := Aside0.mk hL
  clear hg hL
  go_enter Try.func21, Try.ntmps21
  go_wp2_with fail
  go_loopg [10] n (fun gg v10 wr => ∃ i : Nat, v10 = .int .i64 i ∧ i ≤ n ∧ n ≤ i + gg ∧ Aside0 (Rw wr g (swr L a b i)) ∧ Aside0 (Ap (fun k => k = g) w wr))
  case atStart => exact ⟨0, rfl, by omega, by omega, ⟨HG.out⟩, ⟨Ap.refl _ _⟩⟩
  case round =>
    obtain ⟨i, rfl, hi, hgg, HR, HP⟩ := hrel
    by_cases hin : i < n
    · have b1 : decide (i < n) = true := by simpa using hin
      have hlen : Aside0 ((swr L a b i).length = N) := ⟨by rw [swr_len]; exact HL.out⟩
      have c1 := HR.out.cell (i := a + i) (by rw [hlen.out]; omega)
      have c2 := HR.out.cell (i := b + i) (by rw [hlen.out]; omega)
      have f1 := HR.out.frozen (a + i)
      have f2 := HR.out.frozen (b + i)
      obtain ⟨x1, hx1⟩ : ∃ x1, (swr L a b i).getD (a + i) 0 = x1 := ⟨_, rfl⟩
      obtain ⟨x2, hx2⟩ : ∃ x2, (swr L a b i).getD (b + i) 0 = x2 := ⟨_, rfl⟩
      rw [hx1] at c1
      rw [hx2] at c2
      have HX1 := Aside0.mk hx1
      have HX2 := Aside0.mk hx2
      clear hx1 hx2
      go_wp2_with fail
      go_region
      refine name_world (X := fun w1 => Exit.inBlock _ _ _ _ w1) fun w1 hw1 => ?_
      have hR1 : Rw w1 g (swr L a b (i + 1)) := by rw [hw1, swr, ← HX1.out, ← HX2.out]; exact (HR.out.swap (a + i) (b + i)).drew
      have hP1 : Ap (fun k => k = g) w w1 := by rw [hw1]; exact HP.out.trans (Ap.drew (Ap.swap _ _))
      have HR1 := Aside0.mk hR1
      have HP1 := Aside0.mk hP1
      clear hw1 hR1 hP1
      go_wp2_with fail
      go_roundg (gk - 1)
      case measure => omega
      case rel => exact ⟨i + 1, by first | rfl | (simp; done), by omega, by omega, HR1, HP1⟩
    · have b1 : decide (i < n) = false := by simpa using hin
      go_wp2_with fail
      go_end0
      obtain rfl : n = i := by omega
      exact ⟨rfl, ⟨_, HR.out, rfl⟩, HP.out⟩
#print axioms swap_calls

/-! ### rotation -/
set_option maxHeartbeats 8000000 in
theorem rot_calls (g N c a m b : Nat) (P X Y T : List Int) (w : World) (hg : Rw w g (P ++ (X ++ (Y ++ T)))) (hL : (P ++ (X ++ (Y ++ T))).length = N) (ha : a = P.length) (hm : m = a + X.length) (hb : b = m + Y.length) (hX : 0 < X.length) (hY : 0 < Y.length) (hN : N < 2305843009213693952) (F : Value) :
    Calls Try.prog 20 #[.slice (some ⟨g, 0, none⟩) N c, .int .i64 a, .int .i64 m, .int .i64 b, F] w (Sorts g w (fun L' => L' = P ++ (Y ++ (X ++ T)))) := by
  have hbN : b ≤ N := by rw [← hL, hb, hm, ha]; simp only [List.length_append]; omega
  have HG := Aside0.mk hg
  obtain ⟨i0, hi0⟩ : ∃ i0, X.length = i0 := ⟨_, rfl⟩
  obtain ⟨j0, hj0⟩ : ∃ j0, Y.length = j0 := ⟨_, rfl⟩
  obtain ⟨G, hG⟩ : ∃ G, P ++ (Y ++ (X ++ T)) = G := ⟨_, rfl⟩
  rw [hi0] at hX hm
  rw [hj0] at hY hb
  have h0 : Aside0 (∃ P X Y T, P.length + i0 = m ∧ X.length = i0 ∧ Y.length = j0 ∧ Rw w g (P ++ (X ++ (Y ++ T))) ∧ (P ++ (X ++ (Y ++ T))).length = N ∧ P ++ (Y ++ (X ++ T)) = G) := ⟨⟨P, X, Y, T, by omega, hi0, hj0, hg, hL, hG⟩⟩
  have e1 : (m : Int) - (a : Int) = (i0 : Int) := by omega
  have e2 : (b : Int) - (m : Int) = (j0 : Int) := by omega
  have hmi : i0 ≤ m := by omega
  have hmj : m + j0 ≤ N := by omega
  rw [hG]
  clear hg hL hG hi0 hj0 ha HG hm hb
  go_enter Try.func20, Try.ntmps20
  go_wp2_with fail
  go_loopg [10, 11] (i0 + j0) (fun gg v10 v11 wr => ∃ i j : Nat, v10 = .int .i64 i ∧ v11 = .int .i64 j ∧ 0 < i ∧ 0 < j ∧ i ≤ m ∧ m + j ≤ N ∧ i + j ≤ gg ∧ Aside0 (∃ P X Y T, P.length + i = m ∧ X.length = i ∧ Y.length = j ∧ Rw wr g (P ++ (X ++ (Y ++ T))) ∧ (P ++ (X ++ (Y ++ T))).length = N ∧ P ++ (Y ++ (X ++ T)) = G) ∧ Aside0 (Ap (fun k => k = g) w wr))
  case atStart => exact ⟨i0, j0, rfl, rfl, hX, hY, hmi, hmj, Nat.le_refl _, h0, ⟨Ap.refl _ _⟩⟩
  case round =>
    obtain ⟨i, j, rfl, rfl, hi, hj, him, hjm, hgg, HS, HP⟩ := hrel
    clear h0 e1 e2
    obtain ⟨q, hq⟩ : ∃ q, q = m - i := ⟨_, rfl⟩
    have e3 : (m : Int) - (i : Int) = (q : Int) := by omega
    rcases Nat.lt_trichotomy i j with hij | hij | hij
    · have b1 : ((i : Int) == (j : Int)) = false := by simp; omega
      have b2 : (i == j) = false := by simp; omega
      have b3 : decide (j < i) = false := by simp; omega
      have hc : Aside0 (Calls Try.prog 21 #[.slice (some ⟨g, 0, none⟩) N c, .int .i64 q, .int .i64 ((q + j : Nat) : Int), .int .i64 i, F] wr (fun e w' => e = .returned (.tuple #[]) ∧ (∃ P X Y T, P.length + i = m ∧ X.length = i ∧ Y.length = j - i ∧ Rw w' g (P ++ (X ++ (Y ++ T))) ∧ (P ++ (X ++ (Y ++ T))).length = N ∧ P ++ (Y ++ (X ++ T)) = G) ∧ Ap (fun k => k = g) wr w')) := by
        obtain ⟨P, X, Y, T, h1, h2, h3, h4, h5, h6⟩ := HS.out
        refine ⟨(swap_calls g N c q (q + j) i _ wr h4 h5 (by omega) (by omega) hN F).mono ?_⟩
        rintro e w' ⟨he, ⟨L', hr, hl⟩, hp⟩
        refine ⟨he, ⟨P, Y.drop (j - i), Y.take (j - i), X ++ T, h1, by rw [List.length_drop]; omega, by rw [List.length_take]; omega, ?_, ?_, ?_⟩, hp⟩
        · have hk := swr_blocks (P := P) (U := X) (M := Y.take (j - i)) (V := Y.drop (j - i)) (S := T) (a := q) (b := q + j) (k := i) (by rw [List.length_drop]; omega) (by omega) (by rw [List.length_take]; omega) h2.symm
          rw [← List.append_assoc (Y.take _), List.take_append_drop] at hk
          rw [hl, hk] at hr
          exact hr
        · rw [← h5]; simp only [List.length_append, List.length_take, List.length_drop]; omega
        · rw [← h6, ← List.append_assoc (Y.take _), List.take_append_drop]
      have e4 : (m : Int) + (j : Int) - (i : Int) = ((q + j : Nat) : Int) := by omega
      have e5 : (j : Int) - (i : Int) = ((j - i : Nat) : Int) := by omega
      obtain ⟨qj, hqj⟩ : ∃ qj, qj = q + j := ⟨_, rfl⟩
      obtain ⟨ji, hji⟩ : ∃ ji, ji = j - i := ⟨_, rfl⟩
      rw [← hqj, ← hji] at hc
      rw [← hqj] at e4
      rw [← hji] at e5
      have hj1 : 0 < ji ∧ m + ji ≤ N ∧ i + ji ≤ gk - 1 := by omega
      clear hqj hji hq
      go_wp2_with (go_at_call 21; refine hc.out.mono ?_; rintro e w1 ⟨rfl, hS1, hP1⟩)
      go_roundg (gk - 1)
      case measure => omega
      case rel => exact ⟨i, ji, rfl, rfl, hi, hj1.1, him, hj1.2.1, hj1.2.2, ⟨hS1⟩, ⟨HP.out.trans hP1⟩⟩
    · subst hij
      have b1 : ((i : Int) == (i : Int)) = true := by simp
      have b2 : (i == i) = true := by simp
      have hc : Aside0 (Calls Try.prog 21 #[.slice (some ⟨g, 0, none⟩) N c, .int .i64 q, .int .i64 m, .int .i64 i, F] wr (fun e w' => e = .returned (.tuple #[]) ∧ (∃ L', Rw w' g L' ∧ L' = G) ∧ Ap (fun k => k = g) wr w')) := by
        obtain ⟨P, X, Y, T, h1, h2, h3, h4, h5, h6⟩ := HS.out
        refine ⟨(swap_calls g N c q m i _ wr h4 h5 (by omega) (by omega) hN F).mono ?_⟩
        rintro e w' ⟨he, ⟨L', hr, hl⟩, hp⟩
        refine ⟨he, ⟨_, hr, ?_⟩, hp⟩
        have hk := swr_blocks (P := P) (U := X) (M := []) (V := Y) (S := T) (a := q) (b := m) (k := i) (by omega) (by omega) (by simp; omega) h2.symm
        simp only [List.nil_append] at hk
        rw [hl, hk, h6]
      clear hq
      go_wp2_with (go_at_call 21; refine hc.out.mono ?_; rintro e w1 ⟨rfl, hS1, hP1⟩)
      go_end0
      exact ⟨rfl, hS1, HP.out.trans hP1⟩
    · have b1 : ((i : Int) == (j : Int)) = false := by simp; omega
      have b2 : (i == j) = false := by simp; omega
      have b3 : decide (j < i) = true := by simp; omega
      have hc : Aside0 (Calls Try.prog 21 #[.slice (some ⟨g, 0, none⟩) N c, .int .i64 q, .int .i64 m, .int .i64 j, F] wr (fun e w' => e = .returned (.tuple #[]) ∧ (∃ P X Y T, P.length + (i - j) = m ∧ X.length = i - j ∧ Y.length = j ∧ Rw w' g (P ++ (X ++ (Y ++ T))) ∧ (P ++ (X ++ (Y ++ T))).length = N ∧ P ++ (Y ++ (X ++ T)) = G) ∧ Ap (fun k => k = g) wr w')) := by
        obtain ⟨P, X, Y, T, h1, h2, h3, h4, h5, h6⟩ := HS.out
        refine ⟨(swap_calls g N c q m j _ wr h4 h5 (by omega) (by omega) hN F).mono ?_⟩
        rintro e w' ⟨he, ⟨L', hr, hl⟩, hp⟩
        refine ⟨he, ⟨P ++ Y, X.drop j, X.take j, T, by rw [List.length_append]; omega, by rw [List.length_drop]; omega, by rw [List.length_take]; omega, ?_, ?_, ?_⟩, hp⟩
        · have hk := swr_blocks (P := P) (U := X.take j) (M := X.drop j) (V := Y) (S := T) (a := q) (b := m) (k := j) (by rw [List.length_take]; omega) (by omega) (by rw [List.length_drop, List.length_take]; omega) (by rw [List.length_take]; omega)
          rw [← List.append_assoc (X.take _), List.take_append_drop] at hk
          rw [hl, hk] at hr
          rw [List.append_assoc]
          exact hr
        · rw [← h5]; simp only [List.length_append, List.length_take, List.length_drop]; omega
        · rw [← h6, ← List.append_assoc (X.take _), List.take_append_drop, List.append_assoc]
      have e5 : (i : Int) - (j : Int) = ((i - j : Nat) : Int) := by omega
      obtain ⟨ij, hjj⟩ : ∃ ij, ij = i - j := ⟨_, rfl⟩
      rw [← hjj] at hc e5
      have hj1 : 0 < ij ∧ ij ≤ m ∧ ij + j ≤ gk - 1 := by omega
      clear hjj hq
      go_wp2_with (go_at_call 21; refine hc.out.mono ?_; rintro e w1 ⟨rfl, hS1, hP1⟩)
      go_roundg (gk - 1)
      case measure => omega
      case rel => exact ⟨ij, j, rfl, rfl, hj1.1, hj, hj1.2.1, hjm, hj1.2.2, ⟨hS1⟩, ⟨HP.out.trans hP1⟩⟩
#print axioms rot_calls
end Go.Proofs.Ytfokcaillibajaa.Srt
