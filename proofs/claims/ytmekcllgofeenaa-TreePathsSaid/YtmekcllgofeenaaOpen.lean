/- Arguments of a law, opened: what a reading of a type says of the cells, kind by kind. Conditions: none. -/
import Derived.Test.YtmekcllgofeenaaRows
import Derived.Test.YtmekcllgofeenaaWWords
import Derived.Deep.Slices
import Derived.ChangeArms
import Derived.SizedLaws
namespace Go.Proofs.Ytmekcllgofeenaa.Open
open Go.RowKit Go.Proofs.YtmekcllgofeenaaW.PrintWords Go.ChangeShapes Go.WideShapes Go.Deep
open Go.Proofs.Ytmekcllgofeenaa.Rows (uptoBulk uptoBulkAll)
set_option linter.unusedVariables false

/-- A reading of type t tells cells that are of the kind d; the value is good (G); its measure is no more than the datum's bulk. -/
def Opens (P : Program) (t : TypeId) {α : Type} (d : Kd α) (G : α → Prop) (μ : α → Nat) : Prop :=
  ∀ {H : Type} {enc : TypeId × Value → H} {w : World} {base : Nat} {spare : Nat → Bool} {held : Bool} {fuel : Nat} {cs : List Value} {x : DataW H × List MemPlace},
    DataW.trod enc P w base spare held fuel t cs = some x → (∀ n ∈ x.1.weights P t, n ≤ reachBytes) → ∃ y, d.K w y cs ∧ G y ∧ μ y ≤ uptoBulk x.1

def goodInt (k : IntKind) (y : Int) : Prop := (Lit.int k y).wf = true

theorem opens_int {P : Program} {t : TypeId} {k : IntKind} (ht : P.underlying t = some (.int k)) : Opens P t (Kd.int k) (goodInt k) (fun _ => 1) := by
  intro H enc w base spare held fuel cs x h _
  obtain ⟨n, rfl, rfl, hw⟩ := DataW.trod_int ht h
  exact ⟨n, rfl, hw, by simp [uptoBulk]⟩

theorem opens_bool {P : Program} {t : TypeId} (ht : P.underlying t = some .bool) : Opens P t Kd.bool (fun _ => True) (fun _ => 1) := by
  intro H enc w base spare held fuel cs x h _
  obtain ⟨n, rfl, rfl⟩ := DataW.trod_bool ht h
  exact ⟨n, rfl, trivial, by simp [uptoBulk]⟩

theorem list_of {α : Type} {n : Nat} {p : Nat → α → Prop} (h : ∀ i, i < n → ∃ x, p i x) : ∃ ys : List α, ys.length = n ∧ ∀ i y, ys[i]? = some y → p i y := by
  induction n with
  | zero => exact ⟨[], rfl, fun i y hi => by simp at hi⟩
  | succ n ih =>
    obtain ⟨ys, hl, hy⟩ := ih (fun i hi => h i (by omega))
    obtain ⟨x, hx⟩ := h n (by omega)
    refine ⟨ys ++ [x], by simp [hl], fun i y hi => ?_⟩
    rcases Nat.lt_or_ge i n with hlt | hge
    · rw [List.getElem?_append_left (by omega)] at hi
      exact hy i y hi
    · have : i = n := by
        have := (List.getElem?_eq_some_iff.1 hi).1
        simp [hl] at this
        omega
      subst this
      rw [List.getElem?_append_right (by omega), hl] at hi
      simp at hi
      subst hi
      exact hx

theorem bulkAll_append {H : Type} : ∀ l l' : List (DataW H), uptoBulkAll (l ++ l') = uptoBulkAll l + uptoBulkAll l'
  | [], l' => by simp [uptoBulkAll]
  | d :: l, l' => by simp [uptoBulkAll, bulkAll_append l l']; omega

theorem sum_le_bulk {H : Type} {α : Type} {μ : α → Nat} : ∀ (ys : List α) (ds : List (DataW H)), ys.length = ds.length → (∀ (i : Nat) (y : α), ys[i]? = some y → ∀ d, ds[i]? = some d → μ y ≤ uptoBulk d) → (ys.map μ).sum ≤ uptoBulkAll ds
  | [], [], _, _ => by simp [uptoBulkAll]
  | y :: ys, d :: ds, hl, h => by
    have h0 := h 0 y rfl d rfl
    have h1 := sum_le_bulk ys ds (by simpa using hl) (fun i y' hy d' hd => h (i + 1) y' (by simpa using hy) d' (by simpa using hd))
    simp [uptoBulkAll]
    omega
  | [], _ :: _, hl, _ => by simp at hl
  | _ :: _, [], hl, _ => by simp at hl

theorem weightsAll_mem {H : Type} {P : Program} {e : TypeId} : ∀ {l : List (DataW H)} {d : DataW H}, d ∈ l → ∀ n ∈ d.weights P e, n ∈ DataW.weightsAll P e l
  | d0 :: l, d, hd, n, hn => by
    simp only [DataW.weightsAll, List.mem_append]
    rcases List.mem_cons.1 hd with rfl | hd
    · exact .inl hn
    · exact .inr (weightsAll_mem hd n hn)

theorem opens_slice {P : Program} {t e : TypeId} {α : Type} {d : Kd α} {G : α → Prop} {μ : α → Nat} (ht : P.underlying t = some (.slice e)) (hC : P.cellsOf e = d.sz) (B : Nat) (hB : P.bytesOf e = B) (ho : Opens P e d G μ) :
    Opens P t (Kd.slice e d) (fun ys => (∀ y ∈ ys, G y) ∧ ys.length * B ≤ 140737488351232) (fun ys => (ys.map μ).sum) := by
  intro H enc w base spare held fuel cs x h hwt
  rcases open_slice ht h with ⟨rfl, rfl⟩ | ⟨a, len, cap, m, n, D, Pl, rfl, hb, hl, hm, hmm, rfl, hi⟩
  · exact ⟨[], ⟨none, 0, rfl, by simp, rfl, by simp, fun h => by simp at h⟩, ⟨by simp, by simp⟩, by simp⟩
  · have hlm : len ≤ m := by rw [hmm]; split <;> omega
    have hw1 : len * B ≤ 140737488351232 := by
      have h1 := hwt (((List.range len).map D).length * P.bytesOf e + ((List.range (m - len)).map fun j => D (len + j)).length * P.bytesOf e) (by simp [DataW.weights, ht, Nat.add_mul])
      rw [hB] at h1
      simp [reachBytes] at h1
      omega
    have hw2 : ∀ i, i < len → ∀ k ∈ (D i).weights P e, k ≤ reachBytes := by
      intro i hil k hk
      refine hwt k ?_
      simp only [DataW.weights, ht, List.mem_cons, List.mem_append]
      exact .inr (.inl (weightsAll_mem (List.mem_map.2 ⟨i, List.mem_range.2 hil, rfl⟩) k hk))
    obtain ⟨ys, hyl, hy⟩ := list_of (n := len) (p := fun i y => (∃ c, c.length = d.sz ∧ d.K w y c ∧ ∀ j u, c[j]? = some u → w.cell? (a.add (i * d.sz + j)) = some u) ∧ G y ∧ μ y ≤ uptoBulk (D i)) (fun i hil => by
      obtain ⟨cs', h1, h2⟩ := hi i (by omega)
      obtain ⟨y, hK, hG, hμ⟩ := ho h2 (hw2 i hil)
      obtain ⟨_, hcl, hat⟩ := World.cells?_some h1
      refine ⟨y, ⟨cs', by rw [hcl, hC], hK, fun j u hu => ?_⟩, hG, hμ⟩
      have hj : j < cs'.length := (List.getElem?_eq_some_iff.1 hu).1
      rw [← hC, ← Go.Deep.add_add, hat j (by omega), hu])
    subst hyl
    refine ⟨ys, ⟨some a, cap, rfl, hl, rfl, ?_, fun _ => ⟨a, rfl, fun j p hp => (hy j p hp).1⟩⟩, ⟨fun y hym => ?_, hw1⟩, ?_⟩
    · simp only [maxLen] at hm
      omega
    · obtain ⟨i, hil⟩ := List.getElem?_of_mem hym
      exact (hy i y hil).2.1
    · have := sum_le_bulk (μ := μ) ys ((List.range ys.length).map D) (by simp) (fun i y hyi d' hd => by
        have hil : i < ys.length := (List.getElem?_eq_some_iff.1 hyi).1
        simp [List.getElem?_map, List.getElem?_range hil] at hd
        subst hd
        exact (hy i y hyi).2.2)
      simp only [uptoBulk]
      omega

/-- The fields from cell o on. -/
def OpensFs (P : Program) (fs : List Field) (o : Nat) {β : Type} (d : Kd β) (G : β → Prop) (μ : β → Nat) : Prop :=
  ∀ {H : Type} {enc : TypeId × Value → H} {w : World} {base : Nat} {spare : Nat → Bool} {held : Bool} {n : Nat} {cs : List Value} {xs : List (DataW H × List MemPlace)},
    (∀ (i : Nat) (f : Field), fs[i]? = some f → DataW.trod enc P w base spare held n f.type ((cs.drop f.offset).take (P.cellsOf f.type)) = xs[i]?) → xs.length = fs.length →
    (∀ k ∈ DataW.weightsEach P (fs.map (·.type)) (xs.map (·.1)), k ≤ reachBytes) → cs.length = o + d.sz → ∃ y, d.K w y (cs.drop o) ∧ G y ∧ μ y ≤ uptoBulkAll (xs.map (·.1))

theorem opensFs_last {P : Program} {f : Field} {o : Nat} {β : Type} {d : Kd β} {G : β → Prop} {μ : β → Nat} (hoff : f.offset = o) (hC : P.cellsOf f.type = d.sz) (ho : Opens P f.type d G μ) : OpensFs P [f] o d G μ := by
  intro H enc w base spare held n cs xs h hl hwt hcs
  obtain ⟨x, rfl⟩ : ∃ x, xs = [x] := by
    match xs, hl with
    | [x], _ => exact ⟨x, rfl⟩
  have h0 := h 0 f rfl
  rw [hoff, hC, List.take_of_length_le (by simp; omega)] at h0
  obtain ⟨y, hK, hG, hμ⟩ := ho h0 (fun k hk => hwt k (by simpa [DataW.weightsEach] using hk))
  exact ⟨y, hK, hG, by simp [uptoBulkAll]; omega⟩

theorem opensFs_cons {P : Program} {f : Field} {fs : List Field} {o : Nat} {α β : Type} {d : Kd α} {G : α → Prop} {μ : α → Nat} {d' : Kd β} {G' : β → Prop} {μ' : β → Nat}
    (hoff : f.offset = o) (hC : P.cellsOf f.type = d.sz) (ho : Opens P f.type d G μ) (hr : OpensFs P fs (o + d.sz) d' G' μ') : OpensFs P (f :: fs) o (Kd.pair d d') (fun p => G p.1 ∧ G' p.2) (fun p => μ p.1 + μ' p.2) := by
  intro H enc w base spare held n cs xs h hl hwt hcs
  obtain ⟨x, xs, rfl⟩ : ∃ x r, xs = x :: r := by
    match xs, hl with
    | x :: r, _ => exact ⟨x, r, rfl⟩
  have h0 := h 0 f rfl
  rw [hoff, hC] at h0
  obtain ⟨y, hK, hG, hμ⟩ := ho h0 (fun k hk => hwt k (by simp only [List.map_cons, DataW.weightsEach, List.mem_append]; exact .inl hk))
  have hcs' : cs.length = o + (d.sz + d'.sz) := hcs
  obtain ⟨y', hK', hG', hμ'⟩ := hr (n := n) (cs := cs) (xs := xs) (fun i f' hf => by simpa using h (i + 1) f' (by simpa using hf)) (by simpa using hl)
    (fun k hk => hwt k (by simp only [List.map_cons, DataW.weightsEach, List.mem_append]; exact .inr hk)) (by omega)
  refine ⟨(y, y'), ⟨(cs.drop o).take d.sz, cs.drop (o + d.sz), ?_, hK, hK'⟩, ⟨hG, hG'⟩, ?_⟩
  · rw [← List.drop_drop]
    exact (List.take_append_drop _ _).symm
  · simp [uptoBulkAll]
    omega

theorem opens_struct {P : Program} {t : TypeId} {fs : Array Field} {l : List Field} (ht : P.underlying t = some (.struct fs)) (hfs : fs.toList = l) {α β : Type} {d : Kd β} {G : β → Prop} {μ : β → Nat} {f : α → β} (g : β → α) (hg : ∀ y, f (g y) = y)
    (hC : P.cellsOf t = d.sz) (ho : OpensFs P l 0 d G μ) : Opens P t (Kd.iso d f) (fun x => G (f x)) (fun x => μ (f x)) := by
  intro H enc w base spare held fuel cs x h hwt
  obtain ⟨xs, n, _, rfl, hcl, hxl, hf⟩ := DataW.trod_struct ht h
  subst hfs
  obtain ⟨y, hK, hG, hμ⟩ := ho (n := n) (cs := cs) (xs := xs) (fun i f' hf' => hf i f' (by simpa using hf')) (by simpa using hxl) (fun k hk => hwt k (by simpa [DataW.weights, ht] using hk)) (by rw [hcl, hC]; simp)
  refine ⟨g y, ?_, ?_, ?_⟩
  · show d.K w (f (g y)) cs
    rw [hg]
    simpa using hK
  · show G (f (g y))
    rw [hg]
    exact hG
  · show μ (f (g y)) ≤ _
    rw [hg]
    simp only [uptoBulk]
    omega

/-- Bounds out of what the form says of an int. -/
theorem good64 {y : Int} (h : goodInt .i64 y) : -9223372036854775808 ≤ y ∧ y ≤ 9223372036854775807 := by
  simpa [goodInt, Lit.wf, IntKind.min, IntKind.max, IntKind.signed, IntKind.bits] using h
theorem good8 {y : Int} (h : goodInt .i8 y) : -128 ≤ y ∧ y ≤ 127 := by
  simpa [goodInt, Lit.wf, IntKind.min, IntKind.max, IntKind.signed, IntKind.bits] using h
theorem goodu64 {y : Int} (h : goodInt .u64 y) : 0 ≤ y ∧ y ≤ 18446744073709551615 := by
  simpa [goodInt, Lit.wf, IntKind.min, IntKind.max, IntKind.signed, IntKind.bits] using h

#print axioms opens_slice
#print axioms opens_struct
end Go.Proofs.Ytmekcllgofeenaa.Open
