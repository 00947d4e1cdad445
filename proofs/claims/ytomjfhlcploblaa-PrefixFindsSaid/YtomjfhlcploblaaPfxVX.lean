/- The tree of known beginnings, plainly: which node is behind which tokens. Conditions: none. What is kept, plainly: behind which beginning which block is, how often all blocks are held. Conditions: none. What Keep, the drops behind it and Find do to what is kept, plainly. Conditions: none. -/
import Derived.Test.YtomjfhlcploblaaPfxT
namespace Go.Proofs.Ytomjfhlcploblaa.Pfx
open Go.RowKit Go.Proofs.YtomjfhlcploblaaW.PrintWords Go.Proofs.YtomjfhlcploblaaW.PrintMore Go.Proofs.Ytomjfhlcploblaa.Pool Go.Proofs.Ytomjfhlcploblaa.MapsV
set_option linter.unusedVariables false
set_option linter.unusedSimpArgs false

/-- The node behind the first k + 1 blocks of a text. -/
def nod (N : List (Nd × Nat)) (sz : Nat) (t : List Int) : Nat → Option (Nd × Nat)
  | 0 => nx N 0 (chunk sz t 0)
  | k + 1 => (nod N sz t k).bind fun q => nx N q.1.name (chunk sz t (k + 1))
theorem chunk_lenz {sz k : Nat} {t : List Int} (h : (k + 1) * sz ≤ t.length) : (chunk sz t k).length = sz := by
  unfold chunk
  rw [List.length_drop, List.length_take, Nat.min_eq_left h, Nat.succ_mul]
  omega
theorem take_chunk {sz k : Nat} {t : List Int} (h : (k + 1) * sz ≤ t.length) : t.take ((k + 1) * sz) = t.take (k * sz) ++ chunk sz t k := by
  unfold chunk
  have h1 : k * sz ≤ (k + 1) * sz := Nat.mul_le_mul_right _ (Nat.le_succ k)
  have e : t.take (k * sz) = (t.take ((k + 1) * sz)).take (k * sz) := by
    rw [List.take_take, Nat.min_eq_left h1]
  rw [e, List.take_append_drop]
theorem pad_inj {sz : Nat} {a b : List Int} (ha : a.length = sz) (hb : b.length = sz) (h : pad a = pad b) : a = b :=
  List.append_inj_left h (by rw [ha, hb])
theorem take_same {sz k l : Nat} {t t' : List Int} (hl : l ≤ k) (h : t.take (k * sz) = t'.take (k * sz)) : t.take (l * sz) = t'.take (l * sz) := by
  have h1 : l * sz ≤ k * sz := Nat.mul_le_mul_right _ hl
  have := congrArg (List.take (l * sz)) h
  rwa [List.take_take, List.take_take, Nat.min_eq_left h1] at this
theorem chunk_same {sz k l : Nat} {t t' : List Int} (hl : l < k) (h : t.take (k * sz) = t'.take (k * sz)) : chunk sz t l = chunk sz t' l := by
  unfold chunk
  rw [take_same (k := k) (l := l + 1) hl h]
/-- Texts with the same beginning have the same nodes. -/
theorem nod_same {N : List (Nd × Nat)} {sz : Nat} {t t' : List Int} : ∀ {k : Nat}, t.take ((k + 1) * sz) = t'.take ((k + 1) * sz) → nod N sz t k = nod N sz t' k
  | 0, h => by
    unfold nod
    rw [chunk_same (k := 0 + 1) (by omega) h]
  | k + 1, h => by
    unfold nod
    rw [nod_same (k := k) (take_same (k := k + 1 + 1) (by omega) h), chunk_same (k := k + 1 + 1) (by omega) h]
/-- A node that comes at the end, all turned alike. -/
theorem nx_grow {N : List (Nd × Nat)} {f : Nd → Nd} (hf : Mild f) (n : Nd) (g : Nat) (a : Int) (blk : List Int) :
    nx (upd f (N ++ [(n, g)])) a blk = ((nx N a blk).or (if (n.up, n.toks) = (a, pad blk) then some (n, g) else none)).map fun q => (f q.1, q.2) := by
  rw [nx_upd hf]
  congr 1
  unfold nx
  rw [List.find?_append]
  congr 1
  by_cases h : (n.up, n.toks) = (a, pad blk)
  · rw [if_pos h]
    simp only [List.find?_cons, h, decide_true]
  · rw [if_neg h]
    simp only [List.find?_cons, h, decide_false, List.find?_nil]
/-- No two beginnings have one node. -/
def Inj (N : List (Nd × Nat)) (sz : Nat) : Prop := ∀ t t' k k', (k + 1) * sz ≤ t.length → (k' + 1) * sz ≤ t'.length → ∀ q q', nod N sz t k = some q → nod N sz t' k' = some q' → q.1.name = q'.1.name → k = k' ∧ t.take ((k + 1) * sz) = t'.take ((k' + 1) * sz)
theorem nod_mem {N : List (Nd × Nat)} {sz : Nat} {t : List Int} : ∀ {k : Nat} {q : Nd × Nat}, nod N sz t k = some q → q ∈ N
  | 0, q, h => (nx_some h).1
  | k + 1, q, h => by
    unfold nod at h
    obtain ⟨r, _, h2⟩ := Option.bind_eq_some_iff.1 h
    exact (nx_some h2).1
/-- The name of the beginning of i blocks. -/
def At0 (N : List (Nd × Nat)) (sz : Nat) (t : List Int) (i : Nat) (a : Int) : Prop := (i = 0 ∧ a = 0) ∨ ∃ j q, i = j + 1 ∧ nod N sz t j = some q ∧ a = q.1.name
theorem At0.nod {N : List (Nd × Nat)} {sz : Nat} {t : List Int} {i : Nat} {a : Int} (h : At0 N sz t i a) : nod N sz t i = nx N a (chunk sz t i) := by
  rcases h with ⟨rfl, rfl⟩ | ⟨j, q, rfl, hq, rfl⟩
  · rfl
  · show (Pfx.nod N sz t j).bind _ = _
    rw [hq]
    rfl
/-- One name belongs to one beginning. -/
theorem At0.uniq {N : List (Nd × Nat)} {sz : Nat} {t t' : List Int} {i i' : Nat} {a : Int} (hI : Inj N sz) (hn : ∀ q ∈ N, 1 ≤ q.1.name) (h : At0 N sz t i a) (h' : At0 N sz t' i' a) (hl : i * sz ≤ t.length) (hl' : i' * sz ≤ t'.length) : i = i' ∧ t.take (i * sz) = t'.take (i' * sz) := by
  rcases h with ⟨rfl, rfl⟩ | ⟨j, q, rfl, hq, rfl⟩
  · rcases h' with ⟨rfl, _⟩ | ⟨j', q', rfl, hq', e⟩
    · exact ⟨rfl, by simp⟩
    · have := hn q' (nod_mem hq')
      omega
  · rcases h' with ⟨rfl, e⟩ | ⟨j', q', rfl, hq', e⟩
    · have := hn q (nod_mem hq)
      omega
    · obtain ⟨rfl, e2⟩ := hI t t' j j' hl hl' q q' hq hq' e
      exact ⟨rfl, e2⟩
section
variable {N : List (Nd × Nat)} {sz : Nat}
/-- A new node behind the first i blocks of a text: it is the node of the i + 1 blocks; all else is as before. -/
theorem nod_grow {f : Nd → Nd} (hf : Mild f) {t : List Int} {i : Nat} {a x b k0 u0 : Int} {g : Nat} (hI : Inj N sz) (hn : ∀ q ∈ N, 1 ≤ q.1.name ∧ q.1.name < x ∧ q.1.up < x) (hax : a < x) (hA : At0 N sz t i a) (hnx : nx N a (chunk sz t i) = none) (hl : (i + 1) * sz ≤ t.length) (t' : List Int) :
    ∀ k, (k + 1) * sz ≤ t'.length → nod (upd f (N ++ [(⟨a, pad (chunk sz t i), x, b, k0, u0⟩, g)])) sz t' k = if k = i ∧ t'.take ((i + 1) * sz) = t.take ((i + 1) * sz) then some (f ⟨a, pad (chunk sz t i), x, b, k0, u0⟩, g) else (nod N sz t' k).map fun q => (f q.1, q.2) := by
  have hil : i * sz ≤ t.length := Nat.le_trans (Nat.mul_le_mul_right _ (Nat.le_succ i)) hl
  -- behind an elder name
  have key : ∀ k c, At0 N sz t' k c → (k + 1) * sz ≤ t'.length → nx (upd f (N ++ [(⟨a, pad (chunk sz t i), x, b, k0, u0⟩, g)])) c (chunk sz t' k) = if k = i ∧ t'.take ((i + 1) * sz) = t.take ((i + 1) * sz) then some (f ⟨a, pad (chunk sz t i), x, b, k0, u0⟩, g) else (nx N c (chunk sz t' k)).map fun q => (f q.1, q.2) := by
    intro k c hc hkl
    have hkl0 : k * sz ≤ t'.length := Nat.le_trans (Nat.mul_le_mul_right _ (Nat.le_succ k)) hkl
    rw [nx_grow hf]
    by_cases h1 : k = i ∧ t'.take ((i + 1) * sz) = t.take ((i + 1) * sz)
    · obtain ⟨rfl, h2⟩ := h1
      have hca : c = a := by
        rcases hc with ⟨rfl, rfl⟩ | ⟨j, q, rfl, hq, rfl⟩
        · rcases hA with ⟨_, rfl⟩ | ⟨j, q, h, _⟩
          · rfl
          · omega
        · rcases hA with ⟨h, _⟩ | ⟨j', q', h, hq', rfl⟩
          · omega
          · have : j' = j := by omega
            subst this
            rw [nod_same (take_same (k := j' + 1 + 1) (by omega) h2), hq'] at hq
            injection hq with hq
            rw [hq]
      have hch : chunk sz t' k = chunk sz t k := chunk_same (k := k + 1) (by omega) h2
      rw [hca, hch, hnx, if_pos (show k = k ∧ t'.take ((k + 1) * sz) = t.take ((k + 1) * sz) from ⟨rfl, h2⟩), Option.none_or, if_pos rfl]
      rfl
    · rw [if_neg h1]
      by_cases h2 : (a, pad (chunk sz t i)) = (c, pad (chunk sz t' k))
      · exfalso
        injection h2 with h2 h3
        subst h2
        obtain ⟨rfl, h4⟩ := hc.uniq hI (fun q hq => (hn q hq).1) hA hkl0 hil
        have h5 := pad_inj (chunk_lenz hl) (chunk_lenz hkl) h3
        refine h1 ⟨rfl, ?_⟩
        rw [take_chunk hkl, take_chunk hl, h4, h5]
      · rw [if_neg h2, Option.or_none]
  intro k
  induction k with
  | zero =>
    intro hkl
    exact key 0 0 (.inl ⟨rfl, rfl⟩) hkl
  | succ k ih =>
    intro hkl
    have hkl1 : (k + 1) * sz ≤ t'.length := Nat.le_trans (Nat.mul_le_mul_right _ (Nat.le_succ _)) hkl
    have ih := ih hkl1
    show (nod _ sz t' k).bind _ = _
    rw [ih]
    by_cases h1 : k = i ∧ t'.take ((i + 1) * sz) = t.take ((i + 1) * sz)
    · obtain ⟨rfl, h2⟩ := h1
      rw [if_pos ⟨rfl, h2⟩, if_neg (fun h => by omega)]
      have e1 : nod N sz t' k = none := by rw [nod_same h2, hA.nod, hnx]
      have e2 : nod N sz t' (k + 1) = none := by
        show (nod N sz t' k).bind _ = _
        rw [e1]
        rfl
      rw [e2]
      show nx _ (f _).name _ = none
      rw [hf.name, nx_grow hf]
      have e3 : nx N x (chunk sz t' (k + 1)) = none := by
        cases h : nx N x (chunk sz t' (k + 1)) with
        | none => rfl
        | some q =>
          obtain ⟨hm, hu, _⟩ := nx_some h
          have := (hn q hm).2.2
          omega
      rw [e3, if_neg (fun h => by injection h with h1 _; exact absurd (show a = x from h1) (by omega))]
      rfl
    · rw [if_neg h1]
      cases hq : nod N sz t' k with
      | none =>
        have e2 : nod N sz t' (k + 1) = none := by
          show (nod N sz t' k).bind _ = _
          rw [hq]
          rfl
        rw [e2]
        by_cases h2 : k + 1 = i ∧ t'.take ((i + 1) * sz) = t.take ((i + 1) * sz)
        · exfalso
          obtain ⟨h3, h4⟩ := h2
          rcases hA with ⟨h, _⟩ | ⟨j', q', h, hq', _⟩
          · omega
          · have : j' = k := by omega
            subst this
            rw [nod_same (take_same (k := i + 1) (by omega) h4), hq'] at hq
            cases hq
        · rw [if_neg h2]
          rfl
      | some q =>
        show nx _ (f q.1).name _ = _
        rw [hf.name, key (k + 1) q.1.name (.inr ⟨k, q, rfl, hq, rfl⟩) hkl]
        have e2 : nod N sz t' (k + 1) = nx N q.1.name (chunk sz t' (k + 1)) := by
          show (nod N sz t' k).bind _ = _
          rw [hq]
          rfl
        rw [e2]
theorem nod_upd {f : Nd → Nd} (hf : Mild f) (t : List Int) : ∀ k, nod (upd f N) sz t k = (nod N sz t k).map fun q => (f q.1, q.2)
  | 0 => nx_upd hf _ _ _
  | k + 1 => by
    show (nod (upd f N) sz t k).bind _ = _
    rw [nod_upd hf t k]
    show _ = ((nod N sz t k).bind _).map _
    cases nod N sz t k with
    | none => rfl
    | some q =>
      show nx (upd f N) (f q.1).name _ = _
      rw [hf.name, nx_upd hf]
      rfl
/-- The way down tells the nodes, block by block. -/
theorem way_get (hs : 1 ≤ sz) (t : List Int) : ∀ (fuel i : Nat) (a : Int), At0 N sz t i a → i * sz ≤ t.length → t.length ≤ i * sz + fuel → ∀ k, (way N sz fuel a (t.drop (i * sz)))[k]? = if (i + k + 1) * sz ≤ t.length then nod N sz t (i + k) else none
  | 0, i, a, hA, hi, hf, k => by
    have : ¬ (i + k + 1) * sz ≤ t.length := fun h => by
      have h1 : (i + 1) * sz ≤ (i + k + 1) * sz := Nat.mul_le_mul_right _ (by omega)
      rw [Nat.succ_mul] at h1
      omega
    rw [if_neg this]
    rfl
  | fuel + 1, i, a, hA, hi, hf, k => by
    have hd : (t.drop (i * sz)).length = t.length - i * sz := List.length_drop ..
    by_cases h1 : (i + 1) * sz ≤ t.length
    · have h1' := h1
      rw [Nat.succ_mul] at h1'
      have hch : (t.drop (i * sz)).take sz = chunk sz t i := by
        unfold chunk
        rw [List.drop_take, Nat.succ_mul]
        congr 1
        omega
      cases hq : nx N a (chunk sz t i) with
      | none =>
        rw [way_none (by rw [hd]; omega) (by rw [hch]; exact hq)]
        have e0 : ∀ j, nod N sz t (i + j) = none := fun j => by
          induction j with
          | zero => rw [Nat.add_zero, hA.nod, hq]
          | succ j ih =>
            show (nod N sz t (i + j)).bind _ = _
            rw [ih]
            rfl
        rw [e0 k]
        simp
      | some q =>
        rw [way_some (by rw [hd]; omega) (by rw [hch]; exact hq)]
        cases k with
        | zero =>
          show some q = if (i + 1) * sz ≤ t.length then nod N sz t i else none
          rw [if_pos h1, hA.nod, hq]
        | succ k =>
          rw [List.getElem?_cons_succ, List.drop_drop]
          have e1 : i * sz + sz = (i + 1) * sz := (Nat.succ_mul i sz).symm
          rw [e1, way_get hs t fuel (i + 1) q.1.name (.inr ⟨i, q, rfl, by rw [hA.nod, hq], rfl⟩) h1 (by omega) k]
          have e2 : i + 1 + k = i + (k + 1) := by omega
          rw [e2]
    · rw [way_short (by rw [hd]; rw [Nat.succ_mul] at h1; omega)]
      have : ¬ (i + k + 1) * sz ≤ t.length := fun h => h1 (Nat.le_trans (Nat.mul_le_mul_right _ (by omega)) h)
      rw [if_neg this]
      rfl
theorem found_get (hs : 1 ≤ sz) (C : Cs) (t : List Int) (k : Nat) : (found C sz t)[k]? = if (k + 1) * sz ≤ t.length then nod C.N sz t k else none := by
  have := way_get (N := C.N) hs t t.length 0 0 (.inl ⟨rfl, rfl⟩) (by simp) (by simp) k
  simpa [found] using this
end
#print axioms nod_grow
#print axioms found_get
end Go.Proofs.Ytomjfhlcploblaa.Pfx
namespace Go.Proofs.Ytomjfhlcploblaa.Pfx
open Go.RowKit Go.Proofs.YtomjfhlcploblaaW.PrintWords Go.Proofs.YtomjfhlcploblaaW.PrintMore Go.Proofs.Ytomjfhlcploblaa.Pool Go.Proofs.Ytomjfhlcploblaa.MapsV
set_option linter.unusedVariables false
set_option linter.unusedSimpArgs false

/-- The block that the first kept text has behind a beginning of k + 1 blocks. -/
def Kn (Ks : List (List Int × List Int)) (p : List Int) (k : Nat) : Option Int := (Ks.find? fun e => p.isPrefixOf e.1).map fun e => e.2.getD k 0
theorem Kn_snoc (Ks : List (List Int × List Int)) (e : List Int × List Int) (p : List Int) (k : Nat) : Kn (Ks ++ [e]) p k = (Kn Ks p k).or (if p <+: e.1 then some (e.2.getD k 0) else none) := by
  unfold Kn
  rw [List.find?_append]
  cases h : Ks.find? fun e => p.isPrefixOf e.1 with
  | some x => rfl
  | none =>
    by_cases h2 : p <+: e.1
    · have h3 : p.isPrefixOf e.1 = true := List.isPrefixOf_iff_prefix.2 h2
      simp [h2, h3]
    · have h3 : p.isPrefixOf e.1 = false := by
        cases h4 : p.isPrefixOf e.1 with
        | false => rfl
        | true => exact absurd (List.isPrefixOf_iff_prefix.1 h4) h2
      simp [h2, h3]
theorem count_range {n : Nat} : ∀ {B : List Int}, B.Nodup → (∀ b ∈ B, 0 ≤ b ∧ b < n) → ((List.range n).filter fun (j : Nat) => decide ((j : Int) ∈ B)).length = B.length := by
  induction n with
  | zero =>
    intro B _ hb
    cases B with
    | nil => rfl
    | cons x B =>
      have := hb x List.mem_cons_self
      omega
  | succ n ih =>
    intro B hn hb
    rw [List.range_succ, List.filter_append, List.length_append]
    by_cases hm : (n : Int) ∈ B
    · have h1 := ih (B := B.erase (n : Int)) (hn.erase _) (fun b hb' => by
        have h2 := hb b (List.mem_of_mem_erase hb')
        have h3 : b ≠ n := fun e => by
          rw [e] at hb'
          exact (List.Nodup.mem_erase_iff hn).1 hb' |>.1 rfl
        omega)
      have h4 : ((List.range n).filter fun (j : Nat) => decide ((j : Int) ∈ B)) = ((List.range n).filter fun (j : Nat) => decide ((j : Int) ∈ B.erase (n : Int))) := by
        apply List.filter_congr
        intro j hj
        have hj := List.mem_range.1 hj
        have h5 : ((j : Int) ∈ B.erase (n : Int)) ↔ (j : Int) ∈ B := by
          rw [List.Nodup.mem_erase_iff hn]
          exact ⟨fun h => h.2, fun h => ⟨by omega, h⟩⟩
        simp [h5]
      rw [h4, h1, List.length_erase_of_mem hm]
      have : 0 < B.length := List.length_pos_of_mem hm
      simp [hm]
      omega
    · have h1 := ih hn (fun b hb' => by
        have h2 := hb b hb'
        have h3 : b ≠ n := fun e => hm (e ▸ hb')
        omega)
      rw [h1]
      simp [hm]
theorem len_le {B : List Int} {n : Nat} (h : B.Nodup) (hb : ∀ b ∈ B, 0 ≤ b ∧ b < n) : B.length ≤ n := by
  rw [← count_range h hb]
  exact Nat.le_trans (List.length_filter_le _ _) (by simp)
theorem blocksOf_upd {f : Nd → Nd} (hf : ∀ n, (f n).block = n.block) (N : List (Nd × Nat)) : blocksOf (upd f N) = blocksOf N := by
  unfold blocksOf upd
  rw [List.map_map]
  apply List.map_congr_left
  intro q _
  exact hf q.1
structure FInv (sz : Nat) (Ks : List (List Int × List Int)) (C : Cs) (S : Pl) : Prop where
  t1 : ∀ t k, (k + 1) * sz ≤ t.length → (nod C.N sz t k).map (fun q => q.1.block) = Kn Ks (t.take ((k + 1) * sz)) k
  inj : Inj C.N sz
  nm : ∀ q ∈ C.N, 1 ≤ q.1.name ∧ q.1.name ≤ C.last ∧ 0 ≤ q.1.up ∧ q.1.up ≤ C.last ∧ 0 ≤ q.1.kids ∧ q.1.kids ≤ C.last
  last : C.last = C.N.length
  bn : (blocksOf C.N).Nodup
  bb : ∀ b ∈ blocksOf C.N, 0 ≤ b ∧ b < (256 : Nat)
  cs : ∀ j : Nat, j < 256 → S.cs.getD j 0 = if (j : Int) ∈ blocksOf C.N then 1 else 0
  ok : S.Ok
  SN : S.N = 256
/-- Behind i blocks of a text that is being kept. -/
structure KInv (sz : Nat) (Ks : List (List Int × List Int)) (t bs B0 : List Int) (i : Nat) (a : Int) (C : Cs) (S : Pl) : Prop where
  at0 : At0 C.N sz t i a
  t1 : ∀ t' k, (k + 1) * sz ≤ t'.length → (nod C.N sz t' k).map (fun q => q.1.block) = (Kn Ks (t'.take ((k + 1) * sz)) k).or (if k < i ∧ t'.take ((k + 1) * sz) = t.take ((k + 1) * sz) then some (bs.getD k 0) else none)
  inj : Inj C.N sz
  nm : ∀ q ∈ C.N, 1 ≤ q.1.name ∧ q.1.name ≤ C.last ∧ 0 ≤ q.1.up ∧ q.1.up ≤ C.last ∧ 0 ≤ q.1.kids ∧ q.1.kids ≤ C.last
  last : C.last = C.N.length
  bn : (blocksOf C.N).Nodup
  bb : ∀ b ∈ blocksOf C.N, 0 ≤ b ∧ b < (256 : Nat)
  bo : ∀ b ∈ blocksOf C.N, b ∈ B0 ∨ b ∈ bs.take i
  cs : ∀ j : Nat, j < 256 → S.cs.getD j 0 = (if (j : Int) ∈ bs then 1 else 0) + (if (j : Int) ∈ blocksOf C.N then 1 else 0)
  ok : S.Ok
  SN : S.N = 256
theorem getD_mem {l : List Int} {i : Nat} (h : i < l.length) : l.getD i 0 ∈ l := by
  rw [List.getD_eq_getElem?_getD, List.getElem?_eq_getElem h]
  exact List.getElem_mem _
theorem getD_not_take {l : List Int} {i : Nat} (hn : l.Nodup) (h : i < l.length) : l.getD i 0 ∉ l.take i := by
  intro hm
  obtain ⟨j, hj, e⟩ := List.getElem_of_mem hm
  rw [List.length_take] at hj
  rw [List.getElem_take, List.getD_eq_getElem?_getD, List.getElem?_eq_getElem h] at e
  exact List.pairwise_iff_getElem.1 hn j i (by omega) h (by omega) e
theorem At0.upd {N : List (Nd × Nat)} {sz : Nat} {t : List Int} {i : Nat} {a : Int} {f : Nd → Nd} (hf : Mild f) (h : At0 N sz t i a) : At0 (Pfx.upd f N) sz t i a := by
  rcases h with ⟨rfl, rfl⟩ | ⟨j, q, rfl, hq, rfl⟩
  · exact .inl ⟨rfl, rfl⟩
  · exact .inr ⟨j, (f q.1, q.2), rfl, by rw [nod_upd hf, hq]; rfl, (hf.name _).symm⟩
theorem Inj.upd {N : List (Nd × Nat)} {sz : Nat} {f : Nd → Nd} (hf : Mild f) (h : Inj N sz) : Inj (Pfx.upd f N) sz := by
  intro t t' k k' hl hl' q q' hq hq' e
  rw [nod_upd hf] at hq hq'
  obtain ⟨r, hr, rfl⟩ := Option.map_eq_some_iff.1 hq
  obtain ⟨r', hr', rfl⟩ := Option.map_eq_some_iff.1 hq'
  simp only [hf.name] at e
  exact h t t' k k' hl hl' r r' hr hr' e
section
variable {sz : Nat} {Ks : List (List Int × List Int)} {t bs B0 : List Int} {i : Nat} {a : Int} {C : Cs} {S : Pl}
theorem KInv.at_le (h : KInv sz Ks t bs B0 i a C S) : 0 ≤ a ∧ a ≤ C.last := by
  rcases h.at0 with ⟨_, rfl⟩ | ⟨j, q, _, hq, rfl⟩
  · have := h.last
    omega
  · have := h.nm q (nod_mem hq)
    omega
theorem KInv.hit (h : KInv sz Ks t bs B0 i a C S) {q : Nd × Nat} (hq : nx C.N a (chunk sz t i) = some q) (hl : (i + 1) * sz ≤ t.length) (hb : i < bs.length) : KInv sz Ks t bs B0 (i + 1) q.1.name { C with N := upd (useF [q.1.name] C.now) C.N } S := by
  have hf := useF_mild [q.1.name] C.now
  have hnod : nod C.N sz t i = some q := by rw [h.at0.nod, hq]
  have hbl := blocksOf_upd (f := useF [q.1.name] C.now) (useF_block _ _) C.N
  refine ⟨.inr ⟨i, (useF [q.1.name] C.now q.1, q.2), rfl, by show nod (upd _ _) sz t i = _; rw [nod_upd hf, hnod]; rfl, (hf.name _).symm⟩, fun t' k hkl => ?_, h.inj.upd hf, fun r hr => ?_, ?_, ?_, ?_, ?_, ?_, h.ok, h.SN⟩
  · show (nod (upd _ _) sz t' k).map _ = _
    rw [nod_upd hf, Option.map_map]
    have e0 : ((fun (q : Nd × Nat) => q.1.block) ∘ fun (r : Nd × Nat) => (useF [q.1.name] C.now r.1, r.2)) = fun q => q.1.block := by
      funext r
      exact useF_block _ _ _
    rw [e0]
    have ht := h.t1 t' k hkl
    by_cases h1 : k < i ∧ t'.take ((k + 1) * sz) = t.take ((k + 1) * sz)
    · rw [if_pos h1] at ht
      rw [if_pos ⟨by omega, h1.2⟩, ht]
    · rw [if_neg h1] at ht
      by_cases h2 : k < i + 1 ∧ t'.take ((k + 1) * sz) = t.take ((k + 1) * sz)
      · have hk : k = i := by
          have := h2.1
          by_cases h3 : k < i
          · exact absurd ⟨h3, h2.2⟩ h1
          · omega
        subst hk
        rw [nod_same h2.2, hnod] at ht ⊢
        rw [Option.or_none] at ht
        rw [← ht]
        rfl
      · rw [if_neg h2, ht]
  · obtain ⟨r0, hr0, rfl⟩ := List.mem_map.1 hr
    have := h.nm r0 hr0
    have k1 : (useF [q.1.name] C.now r0.1).kids = r0.1.kids := by unfold useF; split <;> rfl
    simp only [hf.name, hf.up, k1]
    exact this
  · show C.last = _
    rw [h.last]
    unfold upd
    rw [List.length_map]
  · show (blocksOf (upd _ _)).Nodup
    rw [hbl]
    exact h.bn
  · intro b hb
    have hb : b ∈ blocksOf (upd _ _) := hb
    rw [hbl] at hb
    exact h.bb b hb
  · intro b hb
    have hb : b ∈ blocksOf (upd _ _) := hb
    rw [hbl] at hb
    rcases h.bo b hb with h1 | h1
    · exact .inl h1
    · refine .inr ?_
      rw [List.take_add_one]
      exact List.mem_append_left _ h1
  · intro j hj
    show _ = _ + if (j : Int) ∈ blocksOf (upd _ _) then 1 else 0
    rw [hbl]
    exact h.cs j hj
theorem KInv.new (h : KInv sz Ks t bs B0 i a C S) (hq : nx C.N a (chunk sz t i) = none) (hl : (i + 1) * sz ≤ t.length) (hb : i < bs.length) (hnd : bs.Nodup) (hB : ∀ b ∈ bs, b ∉ B0 ∧ 0 ≤ b ∧ b < (256 : Nat)) (g : Nat) : KInv sz Ks t bs B0 (i + 1) (C.last + 1) (C.grow a (pad (chunk sz t i)) (rd bs (i : Int)) g) (S.holdS (rd bs (i : Int))) := by
  have hrd : rd bs (i : Int) = bs.getD i 0 := rfl
  rw [hrd]
  generalize hx : bs.getD i 0 = x
  have hxm : x ∈ bs := by rw [← hx]; exact getD_mem hb
  have hxB := hB x hxm
  have hxn : x ∉ blocksOf C.N := fun hm => by
    rcases h.bo x hm with h1 | h1
    · exact hxB.1 h1
    · rw [← hx] at h1
      exact getD_not_take hnd hb h1
  have ha := h.at_le
  -- the nodes
  have hf : Mild (fun n => useF [C.last + 1] C.now (kidF a 1 n)) := ⟨fun n => by rw [(useF_mild _ _).up, (kidF_mild _ _).up], fun n => by rw [(useF_mild _ _).toks, (kidF_mild _ _).toks], fun n => by rw [(useF_mild _ _).name, (kidF_mild _ _).name]⟩
  have hG : (C.grow a (pad (chunk sz t i)) x g).N = upd (fun n => useF [C.last + 1] C.now (kidF a 1 n)) (C.N ++ [(⟨a, pad (chunk sz t i), C.last + 1, x, 0, 0⟩, g)]) := by
    show upd _ (upd _ _) = _
    unfold upd
    rw [List.map_map]
    rfl
  have hfb : ∀ n : Nd, (useF [C.last + 1] C.now (kidF a 1 n)).block = n.block := fun n => by rw [useF_block, kidF_block]
  have hgr := nod_grow (f := fun n => useF [C.last + 1] C.now (kidF a 1 n)) hf (b := x) (k0 := 0) (u0 := 0) (g := g) (x := C.last + 1) h.inj (fun q hq => by have := h.nm q hq; omega) (by omega) h.at0 hq hl
  have hbl : blocksOf (C.grow a (pad (chunk sz t i)) x g).N = blocksOf C.N ++ [x] := by
    rw [hG, blocksOf_upd hfb]
    simp [blocksOf]
  -- the pool
  have hcl : S.cs.length = 256 := h.ok.cl.trans h.SN
  obtain ⟨xn, hxe⟩ : ∃ xn : Nat, x = xn := ⟨x.toNat, by omega⟩
  have hxn2 : xn < 256 := by omega
  have hc1 : S.cs.getD xn 0 = 1 := by
    rw [h.cs xn hxn2, ← hxe, if_pos hxm, if_neg hxn]
  have hh : S.holdS x = S.setC xn 2 := by
    rw [hxe, Pl.hold_is (by rw [h.SN]; exact hxn2) (by rw [hc1]; decide), hc1]
  refine ⟨.inr ⟨i, (useF [C.last + 1] C.now (kidF a 1 ⟨a, pad (chunk sz t i), C.last + 1, x, 0, 0⟩), g), rfl, ?_, ?_⟩, fun t' k hkl => ?_, ?_, fun r hr => ?_, ?_, ?_, ?_, ?_, ?_, ?_, ?_⟩
  · rw [hG, hgr t i hl, if_pos ⟨rfl, rfl⟩]
  · rw [(useF_mild _ _).name, (kidF_mild _ _).name]
  · rw [hG, hgr t' k hkl]
    have ht := h.t1 t' k hkl
    by_cases h1 : k = i ∧ t'.take ((i + 1) * sz) = t.take ((i + 1) * sz)
    · obtain ⟨rfl, h2⟩ := h1
      rw [if_neg (fun h => Nat.lt_irrefl _ h.1), nod_same h2, h.at0.nod, hq, Option.or_none] at ht
      rw [if_pos ⟨rfl, h2⟩, if_pos ⟨by omega, h2⟩, ← ht, hx]
      exact congrArg some (hfb _)
    · rw [if_neg h1, Option.map_map]
      have e0 : ((fun (q : Nd × Nat) => q.1.block) ∘ fun (q : Nd × Nat) => (useF [C.last + 1] C.now (kidF a 1 q.1), q.2)) = fun q => q.1.block := by
        funext r
        exact hfb _
      rw [e0, ht]
      congr 1
      by_cases h2 : k < i ∧ t'.take ((k + 1) * sz) = t.take ((k + 1) * sz)
      · rw [if_pos h2, if_pos ⟨by omega, h2.2⟩]
      · rw [if_neg h2, if_neg (fun h3 => by
          have := h3.1
          by_cases h4 : k < i
          · exact h2 ⟨h4, h3.2⟩
          · have : k = i := by omega
            subst this
            exact h1 ⟨rfl, h3.2⟩)]
  · intro t1 t2 k1 k2 hl1 hl2 q1 q2 hq1 hq2 e
    rw [hG] at hq1 hq2
    rw [hgr t1 k1 hl1] at hq1
    rw [hgr t2 k2 hl2] at hq2
    by_cases h1 : k1 = i ∧ t1.take ((i + 1) * sz) = t.take ((i + 1) * sz)
    · rw [if_pos h1] at hq1
      injection hq1 with hq1
      by_cases h2 : k2 = i ∧ t2.take ((i + 1) * sz) = t.take ((i + 1) * sz)
      · refine ⟨h1.1.trans h2.1.symm, ?_⟩
        rw [h1.1, h2.1, h1.2, h2.2]
      · rw [if_neg h2] at hq2
        obtain ⟨r, hr, rfl⟩ := Option.map_eq_some_iff.1 hq2
        rw [← hq1] at e
        simp only [(useF_mild _ _).name, (kidF_mild _ _).name] at e
        have := h.nm r (nod_mem hr)
        omega
    · rw [if_neg h1] at hq1
      obtain ⟨r, hr, rfl⟩ := Option.map_eq_some_iff.1 hq1
      by_cases h2 : k2 = i ∧ t2.take ((i + 1) * sz) = t.take ((i + 1) * sz)
      · rw [if_pos h2] at hq2
        injection hq2 with hq2
        rw [← hq2] at e
        simp only [(useF_mild _ _).name, (kidF_mild _ _).name] at e
        have := h.nm r (nod_mem hr)
        omega
      · rw [if_neg h2] at hq2
        obtain ⟨r2, hr2, rfl⟩ := Option.map_eq_some_iff.1 hq2
        simp only [(useF_mild _ _).name, (kidF_mild _ _).name] at e
        exact h.inj t1 t2 k1 k2 hl1 hl2 r r2 hr hr2 e
  · rw [hG] at hr
    obtain ⟨r0, hr0, rfl⟩ := List.mem_map.1 hr
    have k1 : (useF [C.last + 1] C.now (kidF a 1 r0.1)).kids = (kidF a 1 r0.1).kids := by unfold useF; split <;> rfl
    show 1 ≤ (useF _ _ (kidF _ _ r0.1)).name ∧ (useF _ _ (kidF _ _ r0.1)).name ≤ C.last + 1 ∧ 0 ≤ (useF _ _ (kidF _ _ r0.1)).up ∧ (useF _ _ (kidF _ _ r0.1)).up ≤ C.last + 1 ∧ 0 ≤ (useF _ _ (kidF _ _ r0.1)).kids ∧ (useF _ _ (kidF _ _ r0.1)).kids ≤ C.last + 1
    rw [k1, (useF_mild _ _).name, (kidF_mild _ _).name, (useF_mild _ _).up, (kidF_mild _ _).up]
    rcases List.mem_append.1 hr0 with h1 | h1
    · have := h.nm r0 h1
      have k2 : (kidF a 1 r0.1).kids = r0.1.kids ∨ (kidF a 1 r0.1).kids = r0.1.kids + 1 := by
        unfold kidF
        split
        · exact .inr rfl
        · exact .inl rfl
      omega
    · rw [List.mem_singleton.1 h1]
      have k2 : (kidF a 1 ⟨a, pad (chunk sz t i), C.last + 1, x, 0, 0⟩).kids = 0 := by
        unfold kidF
        rw [if_neg (show ¬ C.last + 1 = a by omega)]
      rw [k2]
      show 1 ≤ C.last + 1 ∧ C.last + 1 ≤ C.last + 1 ∧ 0 ≤ a ∧ a ≤ C.last + 1 ∧ (0 : Int) ≤ 0 ∧ (0 : Int) ≤ C.last + 1
      omega
  · rw [hG]
    show C.last + 1 = _
    rw [h.last]
    simp [upd]
  · rw [hbl]
    refine List.nodup_append.2 ⟨h.bn, by simp, ?_⟩
    intro b hb c hc e
    rw [List.mem_singleton.1 hc] at e
    exact hxn (e ▸ hb)
  · intro b hb
    rw [hbl] at hb
    rcases List.mem_append.1 hb with h1 | h1
    · exact h.bb b h1
    · rw [List.mem_singleton.1 h1]
      exact hxB.2
  · intro b hb2
    rw [hbl] at hb2
    rcases List.mem_append.1 hb2 with h1 | h1
    · rcases h.bo b h1 with h2 | h2
      · exact .inl h2
      · refine .inr ?_
        rw [List.take_add_one]
        exact List.mem_append_left _ h2
    · rw [List.mem_singleton.1 h1]
      refine .inr ?_
      rw [List.take_add_one, ← hx, List.getD_eq_getElem?_getD, List.getElem?_eq_getElem hb]
      exact List.mem_append_right _ (by simp)
  · intro j hj
    rw [hh, hbl]
    show (S.cs.set xn 2).getD j 0 = _
    rw [gsetN (by omega)]
    by_cases e : j = xn
    · have e2 : (j : Int) = x := by omega
      rw [if_pos e, e2, if_pos hxm, if_pos (List.mem_append_right _ (List.mem_singleton.2 rfl))]
    · have e2 : (j : Int) ≠ x := by omega
      rw [if_neg e, h.cs j hj]
      congr 1
      by_cases h3 : (j : Int) ∈ blocksOf C.N
      · rw [if_pos h3, if_pos (List.mem_append_left _ h3)]
      · rw [if_neg h3, if_neg (fun h4 => by
          rcases List.mem_append.1 h4 with h4 | h4
          · exact h3 h4
          · exact e2 (List.mem_singleton.1 h4))]
  · rw [hh]
    exact Pl.setC_ok h.ok _ _ (by decide)
  · rw [hh]
    exact h.SN
end
#print axioms KInv.new
end Go.Proofs.Ytomjfhlcploblaa.Pfx
namespace Go.Proofs.Ytomjfhlcploblaa.Pfx
open Go.RowKit Go.Proofs.YtomjfhlcploblaaW.PrintWords Go.Proofs.YtomjfhlcploblaaW.PrintMore Go.Proofs.Ytomjfhlcploblaa.Pool Go.Proofs.Ytomjfhlcploblaa.MapsV
set_option linter.unusedVariables false
set_option linter.unusedSimpArgs false

/-- Blocks that have been taken, one by one. -/
structure Tk (S : Pl) (bs : List Int) (S1 : Pl) : Prop where
  ok : S1.Ok
  SN : S1.N = 256
  nd : bs.Nodup
  fr : ∀ b ∈ bs, 0 ≤ b ∧ b < (256 : Nat) ∧ S.cs.getD b.toNat 0 = 0
  cs : ∀ j : Nat, j < 256 → S1.cs.getD j 0 = if (j : Int) ∈ bs then 1 else S.cs.getD j 0
  left : S1.left + bs.length = S.left
section
variable {sz : Nat} {Ks : List (List Int × List Int)} {t bs : List Int} {C : Cs} {S S1 : Pl}
theorem FInv.fresh (h : FInv sz Ks C S) (hT : Tk S bs S1) : ∀ b ∈ bs, b ∉ blocksOf C.N ∧ 0 ≤ b ∧ b < (256 : Nat) := by
  intro b hb
  have h1 := hT.fr b hb
  refine ⟨fun hm => ?_, h1.1, h1.2.1⟩
  have h2 := h.cs b.toNat (by omega)
  rw [h1.2.2, if_pos (by rw [Int.toNat_of_nonneg h1.1]; exact hm)] at h2
  cases h2
theorem FInv.keep (h : FInv sz Ks C S) (hT : Tk S bs S1) {i : Nat} {a : Int} {C' : Cs} {S' : Pl} (hk : KS sz t bs C S1 i a C' S') : i * sz ≤ t.length → i ≤ bs.length → KInv sz Ks t bs (blocksOf C.N) i a C' S' := by
  have hfr := h.fresh hT
  induction hk with
  | start =>
    intro _ _
    refine ⟨.inl ⟨rfl, rfl⟩, fun t' k hkl => ?_, h.inj, h.nm, h.last, h.bn, h.bb, fun b hb => .inl hb, fun j hj => ?_, hT.ok, hT.SN⟩
    · rw [if_neg (fun h => absurd h.1 (Nat.not_lt_zero _)), Option.or_none]
      exact h.t1 t' k hkl
    · rw [hT.cs j hj, h.cs j hj]
      by_cases h1 : (j : Int) ∈ bs
      · rw [if_pos h1, if_pos h1, if_neg (hfr _ h1).1]
      · rw [if_neg h1, if_neg h1, Nat.zero_add]
  | hit hk hq ih =>
    intro hl hb
    have hl1 := Nat.le_trans (Nat.mul_le_mul_right sz (Nat.le_succ _)) hl
    exact (ih hl1 (by omega)).hit hq hl (by omega)
  | new hk hq ih =>
    intro hl hb
    have hl1 := Nat.le_trans (Nat.mul_le_mul_right sz (Nat.le_succ _)) hl
    exact (ih hl1 (by omega)).new hq hl (by omega) hT.nd hfr _
theorem mayGo_true {N : List (Nd × Nat)} {Z : Nat} {S : Pl} {text : List Int} : ∀ (bs T : List Int) (i : Nat) (a : Int), (∀ b ∈ bs, S.countE b ≠ 0) → bs.Nodup → (∀ b ∈ bs, b ∉ T) → mayGo N Z S text i a T bs = true
  | [], T, i, a, _, _, _ => rfl
  | b :: bs, T, i, a, h1, h2, h3 => by
    rw [mayGo, if_neg (h1 b List.mem_cons_self)]
    have h4 := List.nodup_cons.1 h2
    cases h5 : (if 0 ≤ a then nx N a (chunk Z text i) else none) with
    | some q => exact mayGo_true bs T (i + 1) q.1.name (fun x hx => h1 x (List.mem_cons_of_mem _ hx)) h4.2 (fun x hx => h3 x (List.mem_cons_of_mem _ hx))
    | none =>
      have h6 : T.count b = 0 := List.count_eq_zero.2 (h3 b List.mem_cons_self)
      simp only
      rw [if_pos h6]
      exact mayGo_true bs (b :: T) (i + 1) (-1) (fun x hx => h1 x (List.mem_cons_of_mem _ hx)) h4.2 (fun x hx hm => by
        rcases List.mem_cons.1 hm with e | hm
        · exact h4.1 (e ▸ hx)
        · exact h3 x (List.mem_cons_of_mem _ hx) hm)
theorem FInv.may (h : FInv sz Ks C S) (hT : Tk S bs S1) : mayB C sz S1 t bs = true := by
  refine mayGo_true bs _ _ _ (fun b hb => ?_) hT.nd (fun b hb => (h.fresh hT b hb).1)
  have h1 := hT.fr b hb
  unfold Pl.countE
  rw [if_neg (by omega), hT.cs b.toNat (by omega), if_pos (by rw [Int.toNat_of_nonneg h1.1]; exact hb)]
  decide
theorem FInv.n256 (h : FInv sz Ks C S) : C.N.length ≤ 256 := by
  have := len_le h.bn h.bb
  rw [blocksOf, List.length_map] at this
  exact this
theorem FInv.fine (h : FInv sz Ks C S) (hT : Tk S bs S1) (hn : 0 ≤ C.now ∧ C.now ≤ 2305843009213693952) : Fine C S1 0 := by
  have h256 := h.n256
  refine ⟨fun q hq => ?_, ?_, hn, fun c hc => ?_⟩
  · have h1 := h.nm q hq
    have h2 := h.last
    have h3 := h.bb q.1.block (List.mem_map.2 ⟨q, hq, rfl⟩)
    unfold good
    omega
  · have h2 := h.last
    omega
  · obtain ⟨j, hj, rfl⟩ := List.getElem_of_mem hc
    have hcl : S1.cs.length = 256 := hT.ok.cl.trans hT.SN
    have h1 := hT.cs j (by omega)
    rw [List.getD_eq_getElem?_getD, List.getElem?_eq_getElem hj, Option.getD_some] at h1
    rw [h1]
    split
    · omega
    · rw [h.cs j (by omega)]
      split <;> omega
/-- So many of the blocks have been dropped. -/
def DP (C : Cs) (bs : List Int) (j : Nat) (S : Pl) : Prop := S.Ok ∧ S.N = 256 ∧ ∀ x : Nat, x < 256 → S.cs.getD x 0 = (if (x : Int) ∈ bs.drop j then 1 else 0) + (if (x : Int) ∈ blocksOf C.N then 1 else 0)
theorem DP.step {j : Nat} (h : DP C bs j S) (hj : j < bs.length) (hnd : bs.Nodup) (hb : ∀ b ∈ bs, 0 ≤ b ∧ b < (256 : Nat)) : DP C bs (j + 1) (S.dropS (bs.getD j 0)) := by
  obtain ⟨hok, hN, hc⟩ := h
  have hcl : S.cs.length = 256 := hok.cl.trans hN
  have hx := hb _ (getD_mem hj)
  have hd : bs.drop j = bs.getD j 0 :: bs.drop (j + 1) := by
    rw [List.drop_eq_getElem_cons hj, List.getD_eq_getElem?_getD, List.getElem?_eq_getElem hj]
    rfl
  have hnd2 : (bs.drop j).Nodup := hnd.sublist (List.drop_sublist _ _)
  rw [hd] at hnd2
  have hnx := (List.nodup_cons.1 hnd2).1
  generalize bs.getD j 0 = x at hx hd hnx
  obtain ⟨n, rfl⟩ := Int.eq_ofNat_of_zero_le hx.1
  have hn : n < 256 := by omega
  have h1 := hc n hn
  rw [if_pos (by rw [hd]; exact List.mem_cons_self)] at h1
  have hne : S.cs.getD n 0 ≠ 0 := by rw [h1]; omega
  have hdr := Pl.drop_is (S := S) (b := n) (by rw [hN]; exact hn) hne
  rw [hdr]
  refine ⟨Pl.setC_ok hok _ _ (by rw [h1]; split <;> omega), hN, fun y hy => ?_⟩
  show (S.cs.set n (S.cs.getD n 0 - 1)).getD y 0 = _
  rw [gsetN (by omega)]
  by_cases e : y = n
  · subst e
    rw [if_pos rfl, h1, if_neg hnx]
    omega
  · rw [if_neg e, hc y hy, hd]
    congr 1
    by_cases h2 : (y : Int) ∈ bs.drop (j + 1)
    · rw [if_pos h2, if_pos (List.mem_cons_of_mem _ h2)]
    · rw [if_neg h2, if_neg (fun h3 => by
        rcases List.mem_cons.1 h3 with h3 | h3
        · omega
        · exact h2 h3)]
/-- The text is among the kept ones. -/
theorem KInv.done {S' S2 : Pl} {B0 : List Int} {a : Int} {C' : Cs} (hs : 1 ≤ sz) (h : KInv sz Ks t bs B0 (t.length / sz) a C' S') (hbl : bs.length = t.length / sz) (hD : DP C' bs bs.length S2) : FInv sz (Ks ++ [(t, bs)]) C' S2 := by
  refine ⟨fun t' k hkl => ?_, h.inj, h.nm, h.last, h.bn, h.bb, fun j hj => ?_, hD.1, hD.2.1⟩
  · rw [h.t1 t' k hkl, Kn_snoc]
    congr 1
    have hpl : (t'.take ((k + 1) * sz)).length = (k + 1) * sz := by rw [List.length_take, Nat.min_eq_left hkl]
    by_cases h1 : t'.take ((k + 1) * sz) <+: t
    · have h2 : (k + 1) * sz ≤ t.length := by
        have := h1.length_le
        omega
      rw [if_pos h1, if_pos ⟨(Nat.le_div_iff_mul_le (by omega)).2 h2, by
        have := List.prefix_iff_eq_take.1 h1
        rw [hpl] at this
        exact this⟩]
    · rw [if_neg h1, if_neg (fun h2 => h1 (by rw [h2.2]; exact List.take_prefix _ _))]
  · rw [hD.2.2 j hj, List.drop_length, if_neg (by simp), Nat.zero_add]
theorem DP.start {S' : Pl} {B0 : List Int} {a : Int} {i : Nat} {C' : Cs} (h : KInv sz Ks t bs B0 i a C' S') : DP C' bs 0 S' := ⟨h.ok, h.SN, fun x hx => by rw [List.drop_zero]; exact h.cs x hx⟩
theorem count_zero (l : List Nat) : l.count 0 = ((List.range l.length).filter fun j => decide (l.getD j 0 = 0)).length := by
  have h : l = (List.range l.length).map fun j => l.getD j 0 := by
    refine List.ext_getElem (by simp) (fun i h1 h2 => ?_)
    simp [List.getD_eq_getElem?_getD, List.getElem?_eq_getElem h1, h1]
  conv => lhs; rw [h]
  rw [List.count_eq_countP, List.countP_map, List.countP_eq_length_filter]
  congr 1
theorem filter_not (l : List Nat) (p : Nat → Bool) : (l.filter p).length + (l.filter fun x => !p x).length = l.length := by
  induction l with
  | nil => rfl
  | cons x l ih =>
    cases h : p x <;> simp [h] <;> omega
theorem FInv.left (h : FInv sz Ks C S) : S.left + C.N.length = 256 := by
  have hcl : S.cs.length = 256 := h.ok.cl.trans h.SN
  have h1 := count_range h.bn h.bb
  have h2 := filter_not (List.range 256) (fun (j : Nat) => decide ((j : Int) ∈ blocksOf C.N))
  have h3 : S.left = ((List.range 256).filter fun (j : Nat) => !decide ((j : Int) ∈ blocksOf C.N)).length := by
    unfold Pl.left
    rw [count_zero, hcl]
    congr 1
    apply List.filter_congr
    intro j hj
    rw [h.cs j (List.mem_range.1 hj)]
    by_cases h4 : (j : Int) ∈ blocksOf C.N <;> simp [h4]
  rw [h1, List.length_range] at h2
  have h5 : (blocksOf C.N).length = C.N.length := by unfold blocksOf; rw [List.length_map]
  omega
/-- How many blocks are found. -/
theorem FInv.found_len (h : FInv sz Ks C S) (hs : 1 ≤ sz) (t : List Int) (m : Nat) : m < (found C sz t).length ↔ (m + 1) * sz ≤ t.length ∧ ∃ e ∈ Ks, t.take ((m + 1) * sz) <+: e.1 := by
  have hg := found_get hs C t m
  by_cases hl : (m + 1) * sz ≤ t.length
  · rw [if_pos hl] at hg
    have ht := h.t1 t m hl
    have e1 : m < (found C sz t).length ↔ (Kn Ks (t.take ((m + 1) * sz)) m).isSome := by
      rw [← ht, ← hg, Option.isSome_map]
      simp
    rw [e1]
    unfold Kn
    rw [Option.isSome_map, List.find?_isSome]
    constructor
    · rintro ⟨e, he, hp⟩
      exact ⟨hl, e, he, List.isPrefixOf_iff_prefix.1 hp⟩
    · rintro ⟨_, e, he, hp⟩
      exact ⟨e, he, List.isPrefixOf_iff_prefix.2 hp⟩
  · rw [if_neg hl] at hg
    constructor
    · intro h1
      rw [List.getElem?_eq_getElem h1] at hg
      cases hg
    · intro h1
      exact absurd h1.1 hl
theorem FInv.found_is (h : FInv sz Ks C S) (hs : 1 ≤ sz) (t : List Int) {m : Nat} (hm : m < (found C sz t).length) : Kn Ks (t.take ((m + 1) * sz)) m = some ((blocksOf (found C sz t)).getD m 0) ∧ (blocksOf (found C sz t)).getD m 0 ∈ blocksOf C.N := by
  have hl := ((h.found_len hs t m).1 hm).1
  have hg := found_get hs C t m
  rw [if_pos hl, List.getElem?_eq_getElem hm] at hg
  have e : (blocksOf (found C sz t)).getD m 0 = ((found C sz t)[m]).1.block := by
    unfold blocksOf
    rw [List.getD_eq_getElem?_getD, List.getElem?_map, List.getElem?_eq_getElem hm]
    rfl
  rw [← h.t1 t m hl, ← hg, e]
  exact ⟨rfl, List.mem_map.2 ⟨_, nod_mem hg.symm, rfl⟩⟩
theorem FInv.used (h : FInv sz Ks C S) (q : List (Nd × Nat)) : FInv sz Ks (C.used q) S := by
  have hf := useF_mild (q.map fun x => x.1.name) (C.now + 1)
  have hbl := blocksOf_upd (f := useF (q.map fun x => x.1.name) (C.now + 1)) (useF_block _ _) C.N
  refine ⟨fun t k hkl => ?_, h.inj.upd hf, fun r hr => ?_, ?_, ?_, ?_, ?_, h.ok, h.SN⟩
  · show (nod (upd _ _) sz t k).map _ = _
    rw [nod_upd hf, Option.map_map, ← h.t1 t k hkl]
    congr 1
    funext r
    exact useF_block _ _ _
  · obtain ⟨r0, hr0, rfl⟩ := List.mem_map.1 hr
    have := h.nm r0 hr0
    have k1 : (useF (q.map fun x => x.1.name) (C.now + 1) r0.1).kids = r0.1.kids := by unfold useF; split <;> rfl
    simp only [hf.name, hf.up, k1]
    exact this
  · show C.last = _
    rw [h.last]
    unfold Cs.used upd
    rw [List.length_map]
  · show (blocksOf (upd _ _)).Nodup
    rw [hbl]
    exact h.bn
  · intro b hb
    have hb : b ∈ blocksOf (upd _ _) := hb
    rw [hbl] at hb
    exact h.bb b hb
  · intro j hj
    show _ = if (j : Int) ∈ blocksOf (upd _ _) then 1 else 0
    rw [hbl]
    exact h.cs j hj
end
#print axioms FInv.left
#print axioms FInv.used
end Go.Proofs.Ytomjfhlcploblaa.Pfx
