/- The rows of a list of raw trees, opened. Conditions: none. -/
import Derived.Test.YtmekcllgofeenaaOpen
import Derived.Test.YtmekcllgofeenaaJnW
namespace Go.Proofs.Ytmekcllgofeenaa.JnO
open Go.RowKit Go.Proofs.YtmekcllgofeenaaW.PrintWords Go.ChangeShapes Go.WideShapes Go.Deep Go.Proofs.Ytmekcllgofeenaa.Open
open Go.Proofs.Ytmekcllgofeenaa.PTreeJoins Go.Proofs.Ytmekcllgofeenaa.JnP
open Go.Proofs.Ytmekcllgofeenaa.Rows (uptoBulk uptoBulkAll)
set_option linter.unusedVariables false

theorem opens_slice1 {P : Program} {t e : TypeId} {α : Type} {d : Kd α} {G : α → Prop} {μ : α → Nat} (ht : P.underlying t = some (.slice e)) (hC : P.cellsOf e = d.sz) (B : Nat) (hB : P.bytesOf e = B) (ho : Opens P e d G μ) :
    Opens P t (Kd.slice e d) (fun ys => (∀ y ∈ ys, G y) ∧ ys.length * B ≤ 140737488351232) (fun ys => (ys.map μ).sum + 1) := by
  intro H enc w base spare held fuel cs x h hwt
  rcases open_slice ht h with ⟨rfl, rfl⟩ | ⟨a, len, cap, m, n, D, Pl, rfl, hb, hl, hm, hmm, rfl, hi⟩
  · exact ⟨[], ⟨none, 0, rfl, by simp, rfl, by simp, fun h => by simp at h⟩, ⟨by simp, by simp⟩, by simp [uptoBulk]⟩
  · have hlm : len ≤ m := by rw [hmm]; split <;> omega
    have hw1 : len * B ≤ 140737488351232 := by
      have h1 := hwt (((List.range len).map D).length * P.bytesOf e + ((List.range (m - len)).map fun j => D (len + j)).length * P.bytesOf e) (by simp [DataW.weights, ht, Nat.add_mul])
      rw [hB] at h1
      simp [reachBytes] at h1
      omega
    have hw2 : ∀ i, i < len → ∀ k ∈ (D i).weights P e, k ≤ reachBytes := by
      intro i hil k hk
      refine hwt k ?_
      simp only [DataW.weights, ht, List.mem_cons, List.mem_append]
      exact .inr (.inl (weightsAll_mem (List.mem_map.2 ⟨i, List.mem_range.2 hil, rfl⟩) k hk))
    obtain ⟨ys, hyl, hy⟩ := list_of (n := len) (p := fun i y => (∃ c, c.length = d.sz ∧ d.K w y c ∧ ∀ j u, c[j]? = some u → w.cell? (a.add (i * d.sz + j)) = some u) ∧ G y ∧ μ y ≤ uptoBulk (D i)) (fun i hil => by
      obtain ⟨cs', h1, h2⟩ := hi i (by omega)
      obtain ⟨y, hK, hG, hμ⟩ := ho h2 (hw2 i hil)
      obtain ⟨_, hcl, hat⟩ := World.cells?_some h1
      refine ⟨y, ⟨cs', by rw [hcl, hC], hK, fun j u hu => ?_⟩, hG, hμ⟩
      have hj : j < cs'.length := (List.getElem?_eq_some_iff.1 hu).1
      rw [← hC, ← Go.Deep.add_add, hat j (by omega), hu])
    subst hyl
    refine ⟨ys, ⟨some a, cap, rfl, hl, rfl, ?_, fun _ => ⟨a, rfl, fun j p hp => (hy j p hp).1⟩⟩, ⟨fun y hym => ?_, hw1⟩, ?_⟩
    · simp only [maxLen] at hm
      omega
    · obtain ⟨i, hil⟩ := List.getElem?_of_mem hym
      exact (hy i y hil).2.1
    · have := sum_le_bulk (μ := μ) ys ((List.range ys.length).map D) (by simp) (fun i y hyi d' hd => by
        have hil : i < ys.length := (List.getElem?_eq_some_iff.1 hyi).1
        simp [List.getElem?_map, List.getElem?_range hil] at hd
        subst hd
        exact (hy i y hyi).2.2)
      simp only [uptoBulk]
      omega


def goodR (x : S62) : Prop := goodInt .i64 x.f0 ∧ goodInt .i64 x.f1
theorem opens62 : Opens Try.prog 62 k62 goodR (fun _ => 2) := by
  intro H enc w base spare held fuel cs x h hw
  obtain ⟨y, hK, hG, hM⟩ := opens_struct (f := fun x : S62 => (x.f0, x.f1)) Try.underlying62 rfl (fun p => ⟨p.1, p.2⟩) (fun _ => rfl) (by kernel_rfl)
    (opensFs_cons rfl (by kernel_rfl) (opens_int Try.underlying3) (opensFs_last rfl (by kernel_rfl) (opens_int Try.underlying3))) h hw
  exact ⟨y, hK, hG, hM⟩
theorem opens29 : Opens Try.prog 29 (Kd.slice 62 k62) (fun ys => (∀ y ∈ ys, goodR y) ∧ ys.length * 16 ≤ 140737488351232) (fun ys => (ys.map fun _ => 2).sum + 1) :=
  opens_slice1 Try.underlying29 (by kernel_rfl) 16 (by kernel_rfl) opens62
theorem opens28 : Opens Try.prog 28 (Kd.slice 29 (Kd.slice 62 k62)) (fun ls => (∀ ys ∈ ls, (∀ y ∈ ys, goodR y) ∧ ys.length * 16 ≤ 140737488351232) ∧ ls.length * 24 ≤ 140737488351232) (fun ls => (ls.map fun ys => (ys.map fun _ => 2).sum + 1).sum + 1) :=
  opens_slice1 Try.underlying28 (by kernel_rfl) 24 (by kernel_rfl) opens29
theorem sum_ge : ∀ ls : List (List S62), ls.length + total ls ≤ (ls.map fun ys => (ys.map fun _ => 2).sum + 1).sum
  | [] => by simp [total]
  | r :: ls => by
    have := sum_ge ls
    have h2 : ∀ r : List S62, r.length ≤ (r.map fun _ => 2).sum := fun r => by
      induction r with
      | nil => simp
      | cons a r ih => simp; omega
    have := h2 r
    rw [total_cons]
    simp only [List.map_cons, List.sum_cons, List.length_cons]
    omega
#print axioms opens28
end Go.Proofs.Ytmekcllgofeenaa.JnO
