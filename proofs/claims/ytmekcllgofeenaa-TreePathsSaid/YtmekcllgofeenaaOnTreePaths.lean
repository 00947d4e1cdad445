/- A slice of nodes that came in, opened. Conditions: none. -/
import Derived.Test.YtmekcllgofeenaaOpen
import Derived.Test.YtmekcllgofeenaaRcTreePaths
import Derived.Test.YtmekcllgofeenaaChk
namespace Go.Proofs.Ytmekcllgofeenaa.OnTreePaths
open Go.RowKit Go.Proofs.YtmekcllgofeenaaW.PrintWords Go.Proofs.Ytmekcllgofeenaa.Open
open Go.Proofs.Ytmekcllgofeenaa.N3 Go.Proofs.Ytmekcllgofeenaa.PTreePaths Go.Proofs.Ytmekcllgofeenaa.RcTreePaths
def goodN (x : S58) : Prop := goodInt .i64 x.f0 ∧ goodInt .i64 x.f1 ∧ goodInt .i64 x.f2
theorem opens58 : Opens Try.prog 58 k58 goodN (fun _ => 3) := by
  intro H enc w base spare held fuel cs x h hw
  obtain ⟨y, hK, hG, hM⟩ := opens_struct (f := fun x : S58 => (x.f0, x.f1, x.f2)) Try.underlying58 rfl (fun p => ⟨p.1, p.2.1, p.2.2⟩) (fun _ => rfl) (by kernel_rfl)
    (opensFs_cons rfl (by kernel_rfl) (opens_int Try.underlying3) (opensFs_cons rfl (by kernel_rfl) (opens_int Try.underlying3) (opensFs_last rfl (by kernel_rfl) (opens_int Try.underlying3)))) h hw
  exact ⟨y, hK, hG, hM⟩
theorem opens35 : Opens Try.prog 35 (Kd.slice 58 k58) (fun ys => (∀ y ∈ ys, goodN y) ∧ ys.length * 24 ≤ 140737488351232) (fun ys => (ys.map fun _ => 3).sum) :=
  opens_slice Try.underlying35 (by kernel_rfl) 24 (by kernel_rfl) opens58
theorem good_of {ys : List S58} (h : ∀ y ∈ ys, goodN y) : Chk.Good (ys.map tr) := by
  intro i hi
  rw [pa_map, tok_map]
  have hi' : i < ys.length := by simpa using hi
  have hm : rd_T58 ys (i : Int) ∈ ys := by
    simp only [rd_T58, Int.toNat_natCast, List.getD_eq_getElem?_getD, List.getElem?_eq_getElem hi', Option.getD_some]
    exact List.getElem_mem hi'
  exact ⟨(h _ hm).1, (h _ hm).2.1⟩
end Go.Proofs.Ytmekcllgofeenaa.OnTreePaths
