/- (*Cache).Keep: the whole blocks of a text are known from now on. Conditions: none. -/
import Derived.Test.YtomjfhlcploblaaPfxJ
import Derived.Test.YtomjfhlcploblaaMape
namespace Go.Proofs.Ytomjfhlcploblaa.Pfx
open Go.RowKit Go.Proofs.YtomjfhlcploblaaW.PrintWords Go.Proofs.YtomjfhlcploblaaW.PrintMore Go.Proofs.Ytomjfhlcploblaa.Pool Go.Proofs.Ytomjfhlcploblaa.MapsV
open Go.Maps (Keyed)
set_option linter.unusedVariables false
set_option linter.unusedSimpArgs false

def Cs.grow (C : Cs) (at_ : Int) (tk : List Int) (b : Int) (g : Nat) : Cs :=
  { N := upd (useF [C.last + 1] C.now) (upd (kidF at_ 1) (C.N ++ [(⟨at_, tk, C.last + 1, b, 0, 0⟩, g)])), last := C.last + 1, now := C.now }
/-- So many blocks have been kept: behind which name, the cache, the pool. -/
inductive KS (Z : Nat) (text blocks : List Int) (C0 : Cs) (S0 : Pl) : Nat → Int → Cs → Pl → Prop
  | start : KS Z text blocks C0 S0 0 0 { C0 with now := C0.now + 1 } S0
  | hit {i : Nat} {at_ : Int} {C : Cs} {S : Pl} {q : Nd × Nat} : KS Z text blocks C0 S0 i at_ C S → nx C.N at_ (chunk Z text i) = some q → KS Z text blocks C0 S0 (i + 1) q.1.name { C with N := upd (useF [q.1.name] C.now) C.N } S
  | new {i : Nat} {at_ : Int} {C : Cs} {S : Pl} {g : Nat} : KS Z text blocks C0 S0 i at_ C S → nx C.N at_ (chunk Z text i) = none → KS Z text blocks C0 S0 (i + 1) (C.last + 1) (C.grow at_ (pad (chunk Z text i)) (rd blocks (i : Int)) g) (S.holdS (rd blocks (i : Int)))
theorem hold_ok {S : Pl} (h : S.Ok) (b : Int) (hb : ∀ c ∈ S.cs, c < 4611686018427387903) : (S.holdS b).Ok := by
  unfold Pl.holdS
  split
  · refine Pl.setC_ok h _ _ ?_
    by_cases hl : b.toNat < S.cs.length
    · have := hb (S.cs.getD b.toNat 0) (by simp [List.getD_eq_getElem?_getD, List.getElem?_eq_getElem hl])
      omega
    · have : S.cs.getD b.toNat 0 = 0 := by simp [List.getD_eq_getElem?_getD, List.getElem?_eq_none (Nat.le_of_not_lt hl)]
      omega
  · exact h
/-- What holds of all nodes and of the pool. -/
structure Fine (C : Cs) (S : Pl) (m : Nat) : Prop where
  nm : ∀ q ∈ C.N, 1 ≤ q.1.name ∧ q.1.name ≤ C.last ∧ good q.1.block ∧ -1048576 ≤ q.1.kids ∧ q.1.kids ≤ (1048576 + m : Nat)
  last : 0 ≤ C.last ∧ C.last ≤ (1152921504606846976 + m : Nat)
  now : 0 ≤ C.now ∧ C.now ≤ 2305843009213693952
  cs : ∀ c ∈ S.cs, c ≤ 1152921504606846976 + m
theorem KS.nx_new {N : List (Nd × Nat)} {at_ : Int} {blk : List Int} (h : nx N at_ blk = none) : ∀ p ∈ keysOf N, p.1 ≠ (at_, pad blk) := by
  intro p hp e
  obtain ⟨q, hq, rfl⟩ := List.mem_map.1 hp
  have := List.find?_eq_none.1 h q hq
  simp at this
  have e2 : (q.1.up, q.1.toks) = (at_, pad blk) := e
  injection e2 with e3 e4
  exact this e3 e4
theorem Fine.name_new {C : Cs} {S : Pl} {m : Nat} (h : Fine C S m) : ∀ p ∈ namesOf C.N, p.1 ≠ C.last + 1 := by
  intro p hp e
  obtain ⟨q, hq, rfl⟩ := List.mem_map.1 hp
  have := (h.nm q hq).2.1
  have e : q.1.name = C.last + 1 := e
  omega
/-- A new node has been laid, and put into both maps. -/
theorem Ca.add {w w' : World} {A : Adc} {C : Cs} (h : Ca w A C) (at_ : Int) (tk : List Int) (x b : Int) (g : Nat) (ht : tk.length = 16 ∧ ∀ y ∈ tk, good y) (hg : w'.heap[g]? = some (.cells (cellsN ⟨at_, tk, x, b, 0, 0⟩).toArray 151 (0, 0)))
    (hk : HasMap Try.prog 147 ekey eptr w' A.b (keysOf C.N ++ [((at_, tk), g)])) (hn : HasMap Try.prog 3 (Value.int .i64) eptr w' A.n (namesOf C.N ++ [(x, g)]))
    (hf : ∀ k, k ≠ A.b → k ≠ A.n → k < w.heap.size → w'.heap[k]? = w.heap[k]?) : Ca w' A { C with N := C.N ++ [(⟨at_, tk, x, b, 0, 0⟩, g)] } := by
  have hne : ∀ {k : Nat} {cs : Array Value} {t : Nat}, w.heap[k]? = some (.cells cs t (0, 0)) → w'.heap[k]? = some (.cells cs t (0, 0)) := fun {k cs t} hk => by
    have hb : k ≠ A.b := by
      rintro rfl
      obtain ⟨es, clock, hb, _⟩ := h.keys
      rw [hk] at hb
      cases hb
    have hn : k ≠ A.n := by
      rintro rfl
      obtain ⟨es, clock, hb, _⟩ := h.names
      rw [hk] at hb
      cases hb
    rw [hf k hb hn (blk_lt hk)]
    exact hk
  refine ⟨hne h.box, ?_, ?_, fun q hq => ?_, fun q hq => ?_, h.bn⟩
  · unfold keysOf at hk ⊢
    rw [List.map_append]
    exact hk
  · unfold namesOf at hn ⊢
    rw [List.map_append]
    exact hn
  · rcases List.mem_append.1 hq with h1 | h1
    · exact hne (h.node q h1)
    · simp at h1
      rw [h1]
      exact hg
  · rcases List.mem_append.1 hq with h1 | h1
    · exact h.len q h1
    · simp at h1
      rw [h1]
      exact ht
theorem set17 {w : World} {g t : Nat} (h : w.heap[g]? = some (.cells #[.int .i64 0, .int .i64 0, .int .i64 0, .int .i64 0, .int .i64 0, .int .i64 0, .int .i64 0, .int .i64 0, .int .i64 0, .int .i64 0, .int .i64 0, .int .i64 0, .int .i64 0, .int .i64 0, .int .i64 0, .int .i64 0, .int .i64 0] t (0, 0))) (v0 v1 v2 v3 v4 v5 v6 v7 v8 v9 v10 v11 v12 v13 v14 v15 v16 : Value) : (((((((((((((((((w.setCell ⟨g, 0, none⟩ v0).setCell ⟨g, 1, none⟩ v1).setCell ⟨g, 2, none⟩ v2).setCell ⟨g, 3, none⟩ v3).setCell ⟨g, 4, none⟩ v4).setCell ⟨g, 5, none⟩ v5).setCell ⟨g, 6, none⟩ v6).setCell ⟨g, 7, none⟩ v7).setCell ⟨g, 8, none⟩ v8).setCell ⟨g, 9, none⟩ v9).setCell ⟨g, 10, none⟩ v10).setCell ⟨g, 11, none⟩ v11).setCell ⟨g, 12, none⟩ v12).setCell ⟨g, 13, none⟩ v13).setCell ⟨g, 14, none⟩ v14).setCell ⟨g, 15, none⟩ v15).setCell ⟨g, 16, none⟩ v16).heap[g]? = some (.cells #[v0, v1, v2, v3, v4, v5, v6, v7, v8, v9, v10, v11, v12, v13, v14, v15, v16] t (0, 0)) := by
  have h0 := blk_set h 0 v0
  have h1 := blk_set h0 1 v1
  have h2 := blk_set h1 2 v2
  have h3 := blk_set h2 3 v3
  have h4 := blk_set h3 4 v4
  have h5 := blk_set h4 5 v5
  have h6 := blk_set h5 6 v6
  have h7 := blk_set h6 7 v7
  have h8 := blk_set h7 8 v8
  have h9 := blk_set h8 9 v9
  have h10 := blk_set h9 10 v10
  have h11 := blk_set h10 11 v11
  have h12 := blk_set h11 12 v12
  have h13 := blk_set h12 13 v13
  have h14 := blk_set h13 14 v14
  have h15 := blk_set h14 15 v15
  have h16 := blk_set h15 16 v16
  simpa using h16
theorem Ca.lastS {w : World} {A : Adc} {C : Cs} (h : Ca w A C) (t : Int) : Ca (w.setCell ⟨A.c, 4, none⟩ (.int .i64 t)) A { C with last := t } := by
  have h1 := blk_set h.box 4 (.int .i64 t)
  refine ⟨h1, ?_, ?_, fun q hq => blk_far (h.node q hq) (p := ⟨A.c, 4, none⟩) (blk_ne (h.node q hq) h.box (by decide)) _, h.len, h.bn⟩
  · refine h.keys.setCell (a := ⟨A.c, 4, none⟩) (fun e => ?_) _
    obtain ⟨es, clock, hb, _⟩ := h.keys
    rw [show A.b = A.c from e, h.box] at hb
    cases hb
  · refine h.names.setCell (a := ⟨A.c, 4, none⟩) (fun e => ?_) _
    obtain ⟨es, clock, hb, _⟩ := h.names
    rw [show A.n = A.c from e, h.box] at hb
    cases hb
theorem key_apart {w : World} {d : Ad} {S : Pl} {kb : Nat} {cs : Array Value} (h : At w d S) (hk : w.heap[kb]? = some (.cells cs 147 (0, 0))) : ¬ d.own kb := by
  rintro (rfl | rfl | rfl | rfl)
  · exact absurd rfl (blk_ne h.p hk (by decide))
  · exact absurd rfl (blk_ne h.c hk (by decide))
  · exact absurd rfl (blk_ne h.k hk (by decide))
  · exact absurd rfl (blk_ne h.v hk (by decide))
theorem cells17 {w : World} {g t : Nat} {v0 v1 v2 v3 v4 v5 v6 v7 v8 v9 v10 v11 v12 v13 v14 v15 v16 : Value} (h : w.heap[g]? = some (.cells #[v0, v1, v2, v3, v4, v5, v6, v7, v8, v9, v10, v11, v12, v13, v14, v15, v16] t (0, 0))) : w.cell? ⟨g, 0, none⟩ = some v0 ∧ w.cell? ⟨g, 1, none⟩ = some v1 ∧ w.cell? ⟨g, 2, none⟩ = some v2 ∧ w.cell? ⟨g, 3, none⟩ = some v3 ∧ w.cell? ⟨g, 4, none⟩ = some v4 ∧ w.cell? ⟨g, 5, none⟩ = some v5 ∧ w.cell? ⟨g, 6, none⟩ = some v6 ∧ w.cell? ⟨g, 7, none⟩ = some v7 ∧ w.cell? ⟨g, 8, none⟩ = some v8 ∧ w.cell? ⟨g, 9, none⟩ = some v9 ∧ w.cell? ⟨g, 10, none⟩ = some v10 ∧ w.cell? ⟨g, 11, none⟩ = some v11 ∧ w.cell? ⟨g, 12, none⟩ = some v12 ∧ w.cell? ⟨g, 13, none⟩ = some v13 ∧ w.cell? ⟨g, 14, none⟩ = some v14 ∧ w.cell? ⟨g, 15, none⟩ = some v15 ∧ w.cell? ⟨g, 16, none⟩ = some v16 := by
  have hc : ∀ j, w.cell? ⟨g, j, none⟩ = (#[v0, v1, v2, v3, v4, v5, v6, v7, v8, v9, v10, v11, v12, v13, v14, v15, v16] : Array Value)[j]? := fun j => blk_cell h j
  exact ⟨hc 0, hc 1, hc 2, hc 3, hc 4, hc 5, hc 6, hc 7, hc 8, hc 9, hc 10, hc 11, hc 12, hc 13, hc 14, hc 15, hc 16⟩
#print axioms Ca.add
end Go.Proofs.Ytomjfhlcploblaa.Pfx
