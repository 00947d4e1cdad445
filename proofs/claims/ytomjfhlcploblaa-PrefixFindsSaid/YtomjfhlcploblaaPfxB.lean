/- A cache in memory; (*Cache).next. Conditions: none. -/
import Derived.Test.YtomjfhlcploblaaPfxA
import Derived.Test.YtomjfhlcploblaaPoolD
import Derived.Deep.MidRow
import Derived.BigQuiet
namespace Go.Proofs.Ytomjfhlcploblaa.Pfx
open Go.RowKit Go.Proofs.YtomjfhlcploblaaW.PrintWords Go.Proofs.Ytomjfhlcploblaa.Pool Go.Proofs.Ytomjfhlcploblaa.MapsV
open Go.Maps (Keyed)
set_option linter.unusedVariables false
set_option linter.unusedSimpArgs false

abbrev kI : Kd Int := Kd.int .i64
/-! ### copy of wide numbers as a step -/
theorem one_i64 (l : List Int) : ∀ v ∈ ivs l, v.oneCell' = true := by
  intro v hv
  obtain ⟨x, _, rfl⟩ := List.mem_map.1 hv
  rfl
theorem run_copy64 {P : Program} (w : World) (dT sT ty elem : TypeId) (hu : P.underlying dT = some (.slice elem)) (hs : (P.info? elem).map (·.size) = some 1)
    (g off dLen dCap sLen sCap : Nat) (sp : Option Addr) (t : Nat) (cur cs : List Int) (hg : w.heap[g]? = some (.cells (ivs cur).toArray t (0, 0))) (hn : cs.length = Nat.min sLen dLen)
    (hsrc : 0 < cs.length → ∃ ad, sp = some ad ∧ ∀ j v, (ivs cs)[j]? = some v → w.cell? (ad.add j) = some v) (hfit : off + cs.length ≤ cur.length) :
    ∃ w', (Builtin.copy_ #[dT, sT] ty #[.slice (some ⟨g, off, none⟩) dLen dCap, .slice sp sLen sCap]).run P w = .ok (.int .i64 (cs.length : Int)) w' ∧ w'.heap[g]? = some (.cells (ivs (splice cur off cs)).toArray t (0, 0)) ∧ Ap (fun k => k = g) w w' := by
  rcases Nat.eq_zero_or_pos cs.length with h0 | h0
  · have e : cs = [] := List.eq_nil_of_length_eq_zero h0
    subst e
    refine ⟨w, ?_, by simpa [splice] using hg, Ap.refl _ _⟩
    have := run_copy_none (P := P) w dT sT ty elem (some ⟨g, off, none⟩) sp dLen dCap sLen sCap hu hs (by simpa using hn.symm)
    simpa [goInt] using this
  · obtain ⟨ad, rfl, hr⟩ := hsrc h0
    have := run_copy_row (P := P) w dT sT ty elem g off dLen dCap ad sLen sCap (ivs cur).toArray t (ivs cs) hu hs hg (by unfold ivs; rw [List.length_map]; exact hn) hr (by simpa [ivs] using hfit) (one_i64 cs)
    refine ⟨w.setRow g ((ivs cur).toArray.toList.take off ++ ivs cs ++ (ivs cur).toArray.toList.drop (off + (ivs cs).length)).toArray, ?_, ?_, (Ap.refl (fun k => k = g) w).setRow (.inl rfl) _⟩
    · rw [this]
      simp [goInt, ivs]
    · rw [show ivs (splice cur off cs) = splice (ivs cur) off (ivs cs) from nums_splice .i64 cur cs off, setRow_heap w g (ivs cur).toArray _ t (0, 0) hg]
      simp [splice]
theorem wpList_copy64 {P : Program} {w : World} {ops : Array Oper} {rest : List Oper} {o : Oper} {a : Act} {Q : Exit → Act → World → Prop} (hgd : o.guard = none) (x s : Operand) (dT sT : TypeId)
    (ho : o.op = .call { callee := .builtin .copy, args := #[x, s], argTypes := #[dT, sT] }) (elem : TypeId) (hu : P.underlying dT = some (.slice elem)) (hsz : (P.info? elem).map (·.size) = some 1)
    (g off dLen dCap sLen sCap : Nat) (sp : Option Addr) (t : Nat) (cur cs : List Int) (hd : a.eval x = .slice (some ⟨g, off, none⟩) dLen dCap) (hs : a.eval s = .slice sp sLen sCap)
    (hg : w.heap[g]? = some (.cells (ivs cur).toArray t (0, 0))) (hn : cs.length = Nat.min sLen dLen)
    (hsrc : 0 < cs.length → ∃ ad, sp = some ad ∧ ∀ j v, (ivs cs)[j]? = some v → w.cell? (ad.add j) = some v) (hfit : off + cs.length ≤ cur.length)
    (h : ∀ w', w'.heap[g]? = some (.cells (ivs (splice cur off cs)).toArray t (0, 0)) → Ap (fun k => k = g) w w' → wpList P ops Q rest (a.put o.dst (.int .i64 (cs.length : Int))) w') :
    wpList P ops Q (o :: rest) a w := by
  refine wpList_plain hgd fun K hK => ?_
  obtain ⟨w', hrun, h1, h2⟩ := run_copy64 w dT sT o.type elem hu hsz g off dLen dCap sLen sCap sp t cur cs hg hn hsrc hfit
  unfold Oper.wp
  simp [execOp, ho, resolve, invoke, builtin, hd, hs, hrun, Result.andThen]
  exact hK _ _ (h w' h1 h2)

/-! ### the cache -/
/-- Where a cache lies: its cells, its maps, its pool; the pool's block size. -/
structure Adc where
  c : Nat
  b : Nat
  n : Nat
  p : Nat
  Z : Nat
def cellsC (A : Adc) (C : Cs) : Array Value := #[eptr A.p, .int .i64 (A.Z : Int), .map (some A.b), .map (some A.n), .int .i64 C.last, .int .i64 C.now]
def cellsN (n : Nd) : List Value := ivs (n.up :: n.toks) ++ [.int .i64 n.name, .int .i64 n.block, .int .i64 n.kids, .int .i64 n.used]
structure Ca (w : World) (A : Adc) (C : Cs) : Prop where
  box : w.heap[A.c]? = some (.cells (cellsC A C) 142 (0, 0))
  keys : HasMap Try.prog 147 ekey eptr w A.b (keysOf C.N)
  names : HasMap Try.prog 3 (Value.int .i64) eptr w A.n (namesOf C.N)
  node : ∀ q ∈ C.N, w.heap[q.2]? = some (.cells (cellsN q.1).toArray 151 (0, 0))
  len : ∀ q ∈ C.N, q.1.toks.length = 16 ∧ ∀ x ∈ q.1.toks, good x
  bn : A.b ≠ A.n
def Adc.own (A : Adc) (N : List (Nd × Nat)) (k : Nat) : Prop := k = A.c ∨ k = A.b ∨ k = A.n ∨ ∃ q ∈ N, k = q.2
theorem Ca.lt {w : World} {A : Adc} {C : Cs} (h : Ca w A C) (k : Nat) (hk : A.own C.N k) : k < w.heap.size := by
  rcases hk with rfl | rfl | rfl | ⟨q, hq, rfl⟩
  · exact blk_lt h.box
  · exact h.keys.lt
  · exact h.names.lt
  · exact blk_lt (h.node q hq)
theorem Ca.move {own : Nat → Prop} {w w' : World} {A : Adc} {C : Cs} (h : Ca w A C) (ha : Ap own w w') (hn : ∀ k, A.own C.N k → ¬ own k) : Ca w' A C :=
  ⟨ha.blk h.box (hn _ (.inl rfl)), h.keys.move (ha.block _ h.keys.lt (hn _ (.inr (.inl rfl)))), h.names.move (ha.block _ h.names.lt (hn _ (.inr (.inr (.inl rfl))))), fun q hq => ha.blk (h.node q hq) (hn _ (.inr (.inr (.inr ⟨q, hq, rfl⟩)))), h.len, h.bn⟩
theorem Ca.below {w w' : World} {A : Adc} {C : Cs} (h : Ca w A C) (hb : Below w.heap.size w w') : Ca w' A C := h.move (own := fun _ => False) (Ap.of_below hb) (fun _ _ h => h)
theorem Ca.drewN {w : World} {A : Adc} {C : Cs} (h : Ca w A C) (n : Nat) : Ca (w.drewN n) A C := ⟨h.box, h.keys, h.names, h.node, h.len, h.bn⟩
theorem Ca.fields {w : World} {A : Adc} {C : Cs} (h : Ca w A C) : w.cell? ⟨A.c, 0, none⟩ = some (eptr A.p) ∧ w.cell? ⟨A.c, 1, none⟩ = some (.int .i64 (A.Z : Int)) ∧ w.cell? ⟨A.c, 2, none⟩ = some (.map (some A.b)) ∧ w.cell? ⟨A.c, 3, none⟩ = some (.map (some A.n)) ∧
    w.cell? ⟨A.c, 4, none⟩ = some (.int .i64 C.last) ∧ w.cell? ⟨A.c, 5, none⟩ = some (.int .i64 C.now) :=
  ⟨(blk_cell h.box 0).trans rfl, (blk_cell h.box 1).trans rfl, (blk_cell h.box 2).trans rfl, (blk_cell h.box 3).trans rfl, (blk_cell h.box 4).trans rfl, (blk_cell h.box 5).trans rfl⟩
theorem Ca.at_node {w : World} {A : Adc} {C : Cs} (h : Ca w A C) {q : Nd × Nat} (hq : q ∈ C.N) : w.cell? ⟨q.2, 17, none⟩ = some (.int .i64 q.1.name) ∧ w.cell? ⟨q.2, 18, none⟩ = some (.int .i64 q.1.block) ∧ w.cell? ⟨q.2, 19, none⟩ = some (.int .i64 q.1.kids) ∧ w.cell? ⟨q.2, 20, none⟩ = some (.int .i64 q.1.used) := by
  have hl : (ivs (q.1.up :: q.1.toks)).length = 17 := by simp [ivs, (h.len q hq).1]
  have hc : ∀ j, w.cell? ⟨q.2, 17 + j, none⟩ = [Value.int .i64 q.1.name, .int .i64 q.1.block, .int .i64 q.1.kids, .int .i64 q.1.used][j]? := fun j => by
    rw [blk_cell (h.node q hq) (17 + j)]
    unfold cellsN
    rw [List.getElem?_toArray, List.getElem?_append_right (by omega), hl, Nat.add_sub_cancel_left]
  exact ⟨hc 0, hc 1, hc 2, hc 3⟩
theorem Ca.key_node {w : World} {A : Adc} {C : Cs} (h : Ca w A C) {q : Nd × Nat} (hq : q ∈ C.N) : w.rangeAt q.2 0 (ivs (q.1.up :: q.1.toks)) ∧ w.rangeAt q.2 1 (ivs q.1.toks) := by
  have h1 : w.rangeAt q.2 0 (ivs (q.1.up :: q.1.toks)) := fun j v hv => by
    rw [Nat.zero_add, blk_cell (h.node q hq) j]
    unfold cellsN
    rw [List.getElem?_toArray, List.getElem?_append_left (List.getElem?_eq_some_iff.1 hv).1]
    exact hv
  refine ⟨h1, fun j v hv => ?_⟩
  have := h1 (j + 1) v hv
  rwa [Nat.zero_add, Nat.add_comm j 1] at this
/-- A node turned, one of its cells written. -/
theorem Ca.set {w : World} {A : Adc} {C : Cs} (h : Ca w A C) {q : Nd × Nat} (hq : q ∈ C.N) (f : Nd → Nd) (hf : Mild f) (i : Nat) (u : Value) (hfo : ∀ r ∈ C.N, r.1.name ≠ q.1.name → f r.1 = r.1) (hc : cellsN (f q.1) = (cellsN q.1).set i u) :
    Ca (w.setCell ⟨q.2, i, none⟩ u) A { C with N := upd f C.N } := by
  have hnd := h.names.nodup
  have hsame : ∀ r ∈ C.N, r.1.name = q.1.name → r = q := fun r hr e => by
    have h1 : lget (namesOf C.N) r.1.name = some r.2 := lget_mem hnd (List.mem_map.2 ⟨r, hr, rfl⟩)
    rw [namesOf, List.map_map] at hnd
    rcases List.getElem?_of_mem hr with ⟨j, hj⟩
    rcases List.getElem?_of_mem hq with ⟨k, hk⟩
    have hp := List.pairwise_iff_getElem.1 hnd
    have bj : j < (C.N.map ((fun x : Int × Nat => x.1) ∘ fun q : Nd × Nat => (q.1.name, q.2))).length := by rw [List.length_map]; exact (List.getElem?_eq_some_iff.1 hj).1
    have bk : k < (C.N.map ((fun x : Int × Nat => x.1) ∘ fun q : Nd × Nat => (q.1.name, q.2))).length := by rw [List.length_map]; exact (List.getElem?_eq_some_iff.1 hk).1
    have ej := (List.getElem?_eq_some_iff.1 hj).2
    have ek := (List.getElem?_eq_some_iff.1 hk).2
    rcases Nat.lt_trichotomy j k with hlt | heq | hgt
    · have := hp j k bj bk hlt
      simp [ej, ek, e] at this
    · subst heq
      rw [← ej, ← ek]
    · have := hp k j bk bj hgt
      simp [ej, ek, e] at this
  have hkq := h.node q hq
  have hcb : A.c ≠ q.2 := blk_ne h.box hkq (by decide)
  have hbb : A.b ≠ q.2 := by
    obtain ⟨es, clock, hb, _⟩ := h.keys
    rintro e
    rw [e, hkq] at hb
    cases hb
  have hnb : A.n ≠ q.2 := by
    obtain ⟨es, clock, hb, _⟩ := h.names
    rintro e
    rw [e, hkq] at hb
    cases hb
  refine ⟨blk_far h.box (p := ⟨q.2, i, none⟩) hcb _, ?_, ?_, ?_, ?_, h.bn⟩
  · rw [keys_upd hf]
    exact h.keys.setCell (a := ⟨q.2, i, none⟩) hbb _
  · rw [names_upd hf]
    exact h.names.setCell (a := ⟨q.2, i, none⟩) hnb _
  · intro r hr
    obtain ⟨r0, hr0, rfl⟩ := List.mem_map.1 hr
    by_cases e : r0.1.name = q.1.name
    · obtain rfl := hsame r0 hr0 e
      have := blk_set hkq i u
      rw [hc]
      rw [List.setIfInBounds_toArray] at this
      exact this
    · show (w.setCell ⟨q.2, i, none⟩ u).heap[r0.2]? = some (.cells (cellsN (f r0.1)).toArray _ _)
      rw [hfo r0 hr0 e]
      refine blk_far (h.node r0 hr0) (p := ⟨q.2, i, none⟩) (fun e2 => ?_) _
      have h3 := h.node r0 hr0
      rw [show r0.2 = q.2 from e2, hkq] at h3
      injection h3 with h3
      injection h3 with h3
      have h4 := congrArg Array.toList h3
      have h5 : (cellsN q.1)[17]? = (cellsN r0.1)[17]? := by rw [show cellsN q.1 = cellsN r0.1 from h4]
      have l1 : (ivs (q.1.up :: q.1.toks)).length = 17 := by simp [ivs, (h.len q hq).1]
      have l2 : (ivs (r0.1.up :: r0.1.toks)).length = 17 := by simp [ivs, (h.len r0 hr0).1]
      unfold cellsN at h5
      rw [List.getElem?_append_right (by omega), List.getElem?_append_right (by omega), l1, l2] at h5
      simp at h5
      exact e h5.symm
  · intro r hr
    obtain ⟨r0, hr0, rfl⟩ := List.mem_map.1 hr
    show (f r0.1).toks.length = 16 ∧ ∀ x ∈ (f r0.1).toks, good x
    rw [hf.toks]
    exact h.len r0 hr0
theorem Ca.use {w : World} {A : Adc} {C : Cs} (h : Ca w A C) {q : Nd × Nat} (hq : q ∈ C.N) (t : Int) : Ca (w.setCell ⟨q.2, 20, none⟩ (.int .i64 t)) A { C with N := upd (useF [q.1.name] t) C.N } := by
  refine h.set hq _ (useF_mild _ _) 20 _ (fun r _ e => by simp [useF, e]) ?_
  have l1 : (ivs (q.1.up :: q.1.toks)).length = 17 := by simp [ivs, (h.len q hq).1]
  have e : useF [q.1.name] t q.1 = { q.1 with used := t } := by simp [useF]
  rw [e]
  unfold cellsN
  rw [List.set_append_right _ _ (by omega), l1]
  rfl
theorem Ca.kid {w : World} {A : Adc} {C : Cs} (h : Ca w A C) {q : Nd × Nat} (hq : q ∈ C.N) (c : Int) : Ca (w.setCell ⟨q.2, 19, none⟩ (.int .i64 (q.1.kids + c))) A { C with N := upd (kidF q.1.name c) C.N } := by
  refine h.set hq _ (kidF_mild _ _) 19 _ (fun r _ e => by simp [kidF, e]) ?_
  have l1 : (ivs (q.1.up :: q.1.toks)).length = 17 := by simp [ivs, (h.len q hq).1]
  have e : kidF q.1.name c q.1 = { q.1 with kids := q.1.kids + c } := by simp [kidF]
  rw [e]
  unfold cellsN
  rw [List.set_append_right _ _ (by omega), l1]
  rfl
theorem Ca.now {w : World} {A : Adc} {C : Cs} (h : Ca w A C) (t : Int) : Ca (w.setCell ⟨A.c, 5, none⟩ (.int .i64 t)) A { C with now := t } := by
  have h1 := blk_set h.box 5 (.int .i64 t)
  refine ⟨h1, ?_, ?_, fun q hq => blk_far (h.node q hq) (p := ⟨A.c, 5, none⟩) (blk_ne (h.node q hq) h.box (by decide)) _, h.len, h.bn⟩
  · refine h.keys.setCell (a := ⟨A.c, 5, none⟩) (fun e => ?_) _
    obtain ⟨es, clock, hb, _⟩ := h.keys
    rw [show A.b = A.c from e, h.box] at hb
    cases hb
  · refine h.names.setCell (a := ⟨A.c, 5, none⟩) (fun e => ?_) _
    obtain ⟨es, clock, hb, _⟩ := h.names
    rw [show A.n = A.c from e, h.box] at hb
    cases hb
#print axioms Ca.use
end Go.Proofs.Ytomjfhlcploblaa.Pfx
