/- A pool of blocks in memory: what its four blocks hold; a frame by blocks; copy and clear upon them. Conditions: none. -/
import Derived.Test.YtomjfhlcploblaaWWords
import Derived.Outline
import Derived.WalkLawsBesides
import Derived.BigRegion
import Derived.Laws.CopyOwn
import Derived.Lib.SliceRun
import Derived.Lib.Hide
import Derived.Deep.QuietTactic
import Derived.BigQuiet
namespace Go.Proofs.Ytomjfhlcploblaa.Pool
open Go.RowKit Go.Proofs.YtomjfhlcploblaaW.PrintWords
set_option linter.unusedVariables false
set_option linter.unusedSimpArgs false

/-! ### a frame by blocks -/
/-- Of what lay there, only the blocks of own turn. -/
structure Ap (own : Nat → Prop) (w w' : World) : Prop where
  os : w'.os = w.os
  tape : w'.tape = w.tape
  output : w'.output = w.output
  size : w.heap.size ≤ w'.heap.size
  block : ∀ k, k < w.heap.size → ¬ own k → w'.heap[k]? = w.heap[k]?
theorem Ap.refl (own : Nat → Prop) (w : World) : Ap own w w := ⟨rfl, rfl, rfl, Nat.le_refl _, fun _ _ _ => rfl⟩
theorem Ap.trans {own : Nat → Prop} {w w1 w2 : World} (h : Ap own w w1) (g : Ap own w1 w2) : Ap own w w2 :=
  ⟨g.os.trans h.os, g.tape.trans h.tape, g.output.trans h.output, Nat.le_trans h.size g.size, fun k hk ho => (g.block k (Nat.lt_of_lt_of_le hk h.size) ho).trans (h.block k hk ho)⟩
/-- Blocks that are new to the first world may turn as they like. -/
theorem Ap.then {own own' : Nat → Prop} {w w1 w2 : World} (h : Ap own w w1) (g : Ap own' w1 w2) (ho : ∀ k, own' k → own k ∨ w.heap.size ≤ k) : Ap own w w2 :=
  ⟨g.os.trans h.os, g.tape.trans h.tape, g.output.trans h.output, Nat.le_trans h.size g.size, fun k hk hn =>
    (g.block k (Nat.lt_of_lt_of_le hk h.size) (fun h' => (ho k h').elim hn (fun h'' => by omega))).trans (h.block k hk hn)⟩
theorem Ap.mono {own own' : Nat → Prop} {w w' : World} (h : Ap own w w') (ho : ∀ k, own k → own' k) : Ap own' w w' :=
  ⟨h.os, h.tape, h.output, h.size, fun k hk hn => h.block k hk (fun h' => hn (ho k h'))⟩
theorem Ap.of_below {own : Nat → Prop} {w w' : World} (h : Below w.heap.size w w') : Ap own w w' := ⟨h.os, h.tape, h.output, h.size, fun k hk _ => h.block k hk⟩
theorem Ap.below {own : Nat → Prop} {w0 w w' : World} {B : Nat} (h0 : Below B w0 w) (h : Ap own w w') (ho : ∀ k, own k → B ≤ k) (hB : B ≤ w.heap.size) : Below B w0 w' :=
  h0.trans ⟨h.os, h.tape, h.output, h.size, fun k hk => h.block k (Nat.lt_of_lt_of_le hk hB) (fun h' => by have := ho k h'; omega)⟩
theorem Ap.alloc {own : Nat → Prop} {w w' : World} (h : Ap own w w') (o : Obj) : Ap own w (w'.alloc o) := h.trans (Ap.of_below (below_alloc (Below.refl _ _) o))
theorem Ap.drewN {own : Nat → Prop} {w w' : World} (h : Ap own w w') (n : Nat) : Ap own w (w'.drewN n) := h.trans (Ap.of_below (pw_below_drewN (Below.refl _ _) n))
theorem Ap.drew {own : Nat → Prop} {w w' : World} (h : Ap own w w') : Ap own w w'.drew := h.trans (Ap.of_below (below_drew (Below.refl _ _)))
theorem Ap.setCell {own : Nat → Prop} {w w' : World} (h : Ap own w w') {p : Addr} (hp : own p.block ∨ w.heap.size ≤ p.block) (u : Value) : Ap own w (w'.setCell p u) := by
  refine h.then (own' := fun k => k = p.block) ⟨rfl, rfl, rfl, by simp, fun k _ hn => Below.heap_setCell w' p u k hn⟩ (fun k e => ?_)
  subst e
  exact hp
theorem Ap.setRow {own : Nat → Prop} {w w' : World} (h : Ap own w w') {g : Nat} (hp : own g ∨ w.heap.size ≤ g) (cs : Array Value) : Ap own w (w'.setRow g cs) := by
  refine h.then (own' := fun k => k = g) ⟨rfl, rfl, rfl, by simp [World.setRow], fun k _ hn => setRow_other w' g k cs hn⟩ (fun k e => ?_)
  subst e
  exact hp
theorem Ap.setCells {own : Nat → Prop} {w w' : World} (h : Ap own w w') {g : Nat} (hp : own g ∨ w.heap.size ≤ g) (o : Nat) (vs : List Value) : Ap own w (w'.setCells g o vs) := by
  obtain ⟨h1, h2, h3, h4⟩ := setCells_same g vs o w'
  refine h.then (own' := fun k => k = g) ⟨h1, h2, h3, by rw [h4]; exact Nat.le_refl _, fun k _ hn => setCells_far vs o k hn⟩ (fun k e => ?_)
  subst e
  exact hp
theorem Ap.grown {own : Nat → Prop} {w w1 w2 : World} {row : Option Nat} (h : Ap own w w1) (hg : w1.grownBy w2 row) (hr : ∀ k, row = some k → own k ∨ w.heap.size ≤ k) : Ap own w w2 :=
  h.then (own' := fun k => row = some k) ⟨hg.os, hg.tape, hg.output, hg.size, fun k hk hn => hg.block k hk (fun e => hn e.symm)⟩ hr
theorem Ap.blk {own : Nat → Prop} {w w' : World} (h : Ap own w w') {g : Nat} {o : Obj} (hg : w.heap[g]? = some o) (hn : ¬ own g) : w'.heap[g]? = some o := (h.block g (blk_lt hg) hn).trans hg
theorem Ap.R {α : Type} {d : Kd α} {own ok : Nat → Prop} {w w' : World} {e base : Nat} {v : Value} {xs : List α} (h : Ap own w w') (hr : d.R e w base ok v xs) (hn : ∀ k, ok k → ¬ own k) : d.R e w' base ok v xs :=
  Kd.R_step hr (fun k ho hk => h.block k hk (hn k ho))
theorem blk_drewN {w : World} {g : Nat} {o : Obj} (h : w.heap[g]? = some o) (n : Nat) : (w.drewN n).heap[g]? = some o := h

/-! ### the pool -/
structure Pl where
  L : Nat
  W : Nat
  N : Nat
  Z : Nat
  cs : List Nat
  k : List Int
  v : List Int
def Pl.one (S : Pl) : Nat := S.L * S.W
def Pl.size (S : Pl) : Nat := S.L * S.W * S.N * S.Z
def Pl.left (S : Pl) : Nat := S.cs.count 0
structure Pl.Ok (S : Pl) : Prop where
  L1 : 1 ≤ S.L
  L2 : S.L ≤ 4
  W1 : 1 ≤ S.W
  W2 : S.W ≤ 32
  N1 : 1 ≤ S.N
  N2 : S.N ≤ 256
  Z1 : 1 ≤ S.Z
  Z2 : S.Z ≤ 16
  cl : S.cs.length = S.N
  kl : S.k.length = S.size
  vl : S.v.length = S.size
  cb : ∀ c ∈ S.cs, c < 4611686018427387904
structure Ad where
  p : Nat
  c : Nat
  k : Nat
  v : Nat
def Ad.own (d : Ad) (i : Nat) : Prop := i = d.p ∨ i = d.c ∨ i = d.k ∨ i = d.v
def ints (l : List Nat) : List Value := l.map fun (x : Nat) => Value.int .i64 (x : Int)
def row (g n : Nat) : Value := .slice (some ⟨g, 0, none⟩) n n
def cellsOf (d : Ad) (S : Pl) : Array Value := #[.int .i64 (S.L : Int), .int .i64 (S.W : Int), .int .i64 (S.N : Int), .int .i64 (S.Z : Int), row d.c S.N, .int .i64 (S.left : Int), row d.k S.size, row d.v S.size]
structure At (w : World) (d : Ad) (S : Pl) : Prop where
  p : w.heap[d.p]? = some (.cells (cellsOf d S) 123 (0, 0))
  c : w.heap[d.c]? = some (.cells (ints S.cs).toArray 3 (0, 0))
  k : w.heap[d.k]? = some (.cells (nums .i8 S.k).toArray 168 (0, 0))
  v : w.heap[d.v]? = some (.cells (nums .i8 S.v).toArray 168 (0, 0))
  ne : d.k ≠ d.v
theorem At.pc {w : World} {d : Ad} {S : Pl} (h : At w d S) : d.p ≠ d.c := blk_ne h.p h.c (by decide)
theorem At.pk {w : World} {d : Ad} {S : Pl} (h : At w d S) : d.p ≠ d.k := blk_ne h.p h.k (by decide)
theorem At.pv {w : World} {d : Ad} {S : Pl} (h : At w d S) : d.p ≠ d.v := blk_ne h.p h.v (by decide)
theorem At.ck {w : World} {d : Ad} {S : Pl} (h : At w d S) : d.c ≠ d.k := blk_ne h.c h.k (by decide)
theorem At.cv {w : World} {d : Ad} {S : Pl} (h : At w d S) : d.c ≠ d.v := blk_ne h.c h.v (by decide)
theorem At.lt {w : World} {d : Ad} {S : Pl} (h : At w d S) : ∀ i, d.own i → i < w.heap.size := by
  rintro i (rfl | rfl | rfl | rfl)
  · exact blk_lt h.p
  · exact blk_lt h.c
  · exact blk_lt h.k
  · exact blk_lt h.v
theorem At.move {own : Nat → Prop} {w w' : World} {d : Ad} {S : Pl} (h : At w d S) (ha : Ap own w w') (hn : ∀ i, d.own i → ¬ own i) : At w' d S :=
  ⟨ha.blk h.p (hn _ (.inl rfl)), ha.blk h.c (hn _ (.inr (.inl rfl))), ha.blk h.k (hn _ (.inr (.inr (.inl rfl)))), ha.blk h.v (hn _ (.inr (.inr (.inr rfl)))), h.ne⟩
theorem At.drewN {w : World} {d : Ad} {S : Pl} (h : At w d S) (n : Nat) : At (w.drewN n) d S := ⟨h.p, h.c, h.k, h.v, h.ne⟩
/-- What the fields hold. -/
theorem At.fields {w : World} {d : Ad} {S : Pl} (h : At w d S) :
    w.cell? ⟨d.p, 0, none⟩ = some (.int .i64 (S.L : Int)) ∧ w.cell? ⟨d.p, 1, none⟩ = some (.int .i64 (S.W : Int)) ∧ w.cell? ⟨d.p, 2, none⟩ = some (.int .i64 (S.N : Int)) ∧ w.cell? ⟨d.p, 3, none⟩ = some (.int .i64 (S.Z : Int)) ∧
    w.cell? ⟨d.p, 4, none⟩ = some (.slice (some ⟨d.c, 0, none⟩) S.N S.N) ∧ w.cell? ⟨d.p, 5, none⟩ = some (.int .i64 (S.left : Int)) ∧ w.cell? ⟨d.p, 6, none⟩ = some (.slice (some ⟨d.k, 0, none⟩) S.size S.size) ∧ w.cell? ⟨d.p, 7, none⟩ = some (.slice (some ⟨d.v, 0, none⟩) S.size S.size) :=
  ⟨blk_cell h.p 0, blk_cell h.p 1, blk_cell h.p 2, blk_cell h.p 3, blk_cell h.p 4, blk_cell h.p 5, blk_cell h.p 6, blk_cell h.p 7⟩
theorem At.cnt {w : World} {d : Ad} {S : Pl} (h : At w d S) (b : Nat) (hb : b < S.cs.length) : w.cell? ⟨d.c, b, none⟩ = some (.int .i64 ((S.cs.getD b 0 : Nat) : Int)) := by
  rw [blk_cell h.c b]
  simp [ints, List.getElem?_eq_getElem hb, List.getD_eq_getElem?_getD]

/-! ### copy and clear as steps -/
theorem one_i8 (l : List Int) : ∀ v ∈ nums .i8 l, v.oneCell' = true := by
  intro v hv
  obtain ⟨x, _, rfl⟩ := List.mem_map.1 hv
  rfl
theorem nums_splice (k : IntKind) (L cs : List Int) (off : Nat) : nums k (splice L off cs) = splice (nums k L) off (nums k cs) := by
  simp [splice, nums, List.map_take, List.map_drop]
/-- What is read of a row of numbers from a place on. -/
theorem blk_reads {w : World} {g t : Nat} {k : IntKind} {L : List Int} (h : w.heap[g]? = some (.cells (nums k L).toArray t (0, 0))) (off n : Nat) :
    ∀ j v, (nums k ((L.drop off).take n))[j]? = some v → w.cell? ((⟨g, off, none⟩ : Addr).add j) = some v := by
  intro j v hv
  rw [add_at, blk_cell h (off + j)]
  have : j < ((L.drop off).take n).length := by
    have := (List.getElem?_eq_some_iff.1 hv).1
    simpa [nums] using this
  simp only [nums, List.getElem?_map, List.getElem?_toArray] at hv ⊢
  rw [List.getElem?_take] at hv
  split at hv
  · rw [List.getElem?_drop] at hv
    exact hv
  · cases hv
theorem run_copy_at {P : Program} (w : World) (dT sT ty elem : TypeId) (hu : P.underlying dT = some (.slice elem)) (hs : (P.info? elem).map (·.size) = some 1)
    (g off dLen dCap sLen sCap : Nat) (sp : Option Addr) (t : Nat) (cur cs : List Int) (hg : w.heap[g]? = some (.cells (nums .i8 cur).toArray t (0, 0))) (hn : cs.length = Nat.min sLen dLen)
    (hsrc : 0 < cs.length → ∃ ad, sp = some ad ∧ ∀ j v, (nums .i8 cs)[j]? = some v → w.cell? (ad.add j) = some v) (hfit : off + cs.length ≤ cur.length) :
    ∃ w', (Builtin.copy_ #[dT, sT] ty #[.slice (some ⟨g, off, none⟩) dLen dCap, .slice sp sLen sCap]).run P w = .ok (.int .i64 (cs.length : Int)) w' ∧ w'.heap[g]? = some (.cells (nums .i8 (splice cur off cs)).toArray t (0, 0)) ∧ Ap (fun k => k = g) w w' := by
  rcases Nat.eq_zero_or_pos cs.length with h0 | h0
  · have e : cs = [] := List.eq_nil_of_length_eq_zero h0
    subst e
    refine ⟨w, ?_, by simpa [splice] using hg, Ap.refl _ _⟩
    have := run_copy_none (P := P) w dT sT ty elem (some ⟨g, off, none⟩) sp dLen dCap sLen sCap hu hs (by simpa using hn.symm)
    simpa [goInt] using this
  · obtain ⟨ad, rfl, hr⟩ := hsrc h0
    have := run_copy_row (P := P) w dT sT ty elem g off dLen dCap ad sLen sCap (nums .i8 cur).toArray t (nums .i8 cs) hu hs hg (by rw [nums_length]; exact hn) hr (by simpa [nums] using hfit) (one_i8 cs)
    refine ⟨w.setRow g ((nums .i8 cur).toArray.toList.take off ++ nums .i8 cs ++ (nums .i8 cur).toArray.toList.drop (off + (nums .i8 cs).length)).toArray, ?_, ?_, (Ap.refl (fun k => k = g) w).setRow (.inl rfl) _⟩
    · rw [this]
      simp [goInt, nums]
    · rw [nums_splice, setRow_heap w g (nums .i8 cur).toArray _ t (0, 0) hg]
      simp [splice]
theorem run_clear_at {P : Program} (w : World) (T e ty : TypeId) (hu : P.underlying T = some (.slice e)) (hv : ∀ w, (zeroValue e).run P w = .ok (.int .i8 0) w) (g off n c t : Nat) (cur : List Int)
    (hg : w.heap[g]? = some (.cells (nums .i8 cur).toArray t (0, 0))) (hn : 0 < n) (hfit : off + n ≤ cur.length) :
    ∃ w', (Builtin.clear_ #[T] ty #[.slice (some ⟨g, off, none⟩) n c]).run P w = .ok (.tuple #[]) w' ∧ w'.heap[g]? = some (.cells (nums .i8 (splice cur off (List.replicate n 0))).toArray t (0, 0)) ∧ Ap (fun k => k = g) w w' := by
  refine ⟨_, Lib.run_clear_slice w T e ty (.int .i8 0) hu hv rfl rfl g off n c hn (fun j hj => ?_) (fun j _ => blk_frozen hg _), ?_, (Ap.refl (fun k => k = g) w).setCells (.inl rfl) _ _⟩
  · rw [blk_cell hg]
    simp [nums]
    omega
  · obtain ⟨cur', h2, _, h3⟩ := setCells_row (List.replicate n (Value.int .i8 0)) off w (nums .i8 cur).toArray hg (by simpa [nums] using hfit)
    rw [h2, nums_splice]
    have : cur' = cur'.toList.toArray := by simp
    rw [this, h3]
    simp [splice, nums]
/-- 'xs[l:h]' of elements of one cell, l < h. -/
theorem cut_lh {P : Program} (t e : TypeId) {i : TypeInfo} (ht : P.underlying t = some (.slice e)) (hi : P.info? e = some i) (hs : i.size = 1) (g o n c l h : Nat) (h1 : l < h) (h2 : h ≤ c) :
    ∀ W : World, (Instr.slice t (.slice (some ⟨g, o, none⟩) n c) (some (.int .i64 (l : Int))) (some (.int .i64 (h : Int))) none).run P W = .ok (.slice (some ⟨g, o + l, none⟩) (h - l) (c - l)) W := by
  intro W
  have hel : P.elem t = e := by simp [Program.elem, ht]
  have hu : P.underlying t = some (.slice (P.elem t)) := by rw [hel]; exact ht
  rw [run_slice_lh W t (some ⟨g, o, none⟩) n c hu .i64 .i64 (l : Int) (h : Int) (by omega) (by omega) (by omega), hel]
  have hne : ¬ c = l := by omega
  have := add_at g o l
  simp [sizeOf, typeInfo, hi, hs, sliced, Result.andThen, hne, this]
#print axioms run_copy_at
#print axioms run_clear_at
end Go.Proofs.Ytomjfhlcploblaa.Pool
