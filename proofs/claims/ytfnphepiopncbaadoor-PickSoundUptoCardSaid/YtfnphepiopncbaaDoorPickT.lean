/- What a row's list of variables gives: the tables hold what they were laid with. Conditions: none. -/
import Derived.Test.YtfnphepiopncbaaDoorPickJ
import Derived.Test.YtfnphepiopncbaaDoorCards
import Derived.Test.YtfnphepiopncbaaDoorTie
import Derived.OpenShut
import Derived.ChangeSame
import Derived.Deep.DeepHandedRow
import Derived.Lib.LaidTab
namespace Go.Proofs.YtfnphepiopncbaaDoor.Pick
open Go.ChangeShapes Go.WideShapes Go.ChangeAt Go.RowKit
set_option linter.unusedVariables false
set_option linter.unusedSimpArgs false

theorem gTerms : Tryd.prog.globalNamed "augur/fix.terms" = some 1 := by kernel_rfl
theorem gRounds : Tryd.prog.globalNamed "augur/draw.rounds" = some 0 := by kernel_rfl
theorem gTermsT : (Tryd.prog.globals[1]?).map (·.type) = some 91 := by kernel_rfl
theorem gRoundsT : (Tryd.prog.globals[0]?).map (·.type) = some 88 := by kernel_rfl
theorem cells5 : Tryd.prog.cellsOf 91 = 5 := by kernel_rfl
theorem cells1 : Tryd.prog.cellsOf 2 = 1 := by kernel_rfl
theorem cellsR : Tryd.prog.cellsOf 88 = 6 := by kernel_rfl
theorem cellsS : Tryd.prog.cellsOf 87 = 2 := by kernel_rfl
theorem cellsU : Tryd.prog.cellsOf 86 = 1 := by kernel_rfl
theorem cellsV : Tryd.prog.cellsOf 22 = 1 := by kernel_rfl
abbrev laidL : List (String × DataW Unit) := [("augur/fix.terms", Rows.laid_augur_fix_terms), ("augur/draw.rounds", Rows.laid_augur_draw_rounds)]
theorem laid_of {W : World} (h : laidMetH Tryd.prog laidL W) : Laid W := by
  have hT : Lib.TabIs Tryd.prog W "augur/fix.terms" .i64 terms := Lib.tabIs_of_head (rest := [("augur/draw.rounds", Rows.laid_augur_draw_rounds)]) gTerms gTermsT Tryd.underlying91 Tryd.underlying2 cells1 cells5 h
  obtain ⟨ps, ⟨g0, t0, cs0, f0, p0, q0, hg0, ht0, hv0, hd0, ⟨g1, t1, cs1, f1, p1, q1, hg1, ht1, hv1, hd1, _, _⟩, _⟩, _, _⟩ := h
  obtain rfl := Option.some.inj (gRounds.symm.trans hg1)
  obtain rfl := Option.some.inj (gRoundsT.symm.trans ht1)
  obtain ⟨xs, m1, rfl, hx1, hlen, hn3, hel⟩ := DataW.trod_array Tryd.underlying88 hd1
  rw [cellsS] at hel
  obtain ⟨l1⟩ := cs1
  rw [cellsR] at hlen
  match xs, hn3, l1, hlen with
  | [x0, x1, x2], _, [a, b, c, d, e, f], _ =>
    simp only [Rows.laid_augur_draw_rounds, Prod.mk.injEq, DataW.agg.injEq, List.map_cons, List.map_nil, List.cons.injEq, and_true] at hx1
    obtain ⟨⟨e0, e1, e2⟩, _⟩ := hx1
    have v := fun (i : Nat) => World.var?_cell gRounds hv1 i
    obtain ⟨y0, y1, n0, r0, _, i0, i1⟩ := trod_struct2 Tryd.underlying87 (show _ = some x0 from hel 0 (by decide))
    obtain ⟨z0, z1, n1, r1, _, j0, j1⟩ := trod_struct2 Tryd.underlying87 (show _ = some x1 from hel 1 (by decide))
    obtain ⟨u0, u1, n2, r2, _, k0, k1⟩ := trod_struct2 Tryd.underlying87 (show _ = some x2 from hel 2 (by decide))
    rw [r0] at e0
    rw [r1] at e1
    rw [r2] at e2
    simp only [DataW.agg.injEq, List.cons.injEq, and_true] at e0 e1 e2
    obtain ⟨a0, p1, p2, _⟩ := DataW.trod_int Tryd.underlying86 i0
    obtain ⟨a1, p3, p4, _⟩ := DataW.trod_int Tryd.underlying22 i1
    obtain ⟨a2, p5, p6, _⟩ := DataW.trod_int Tryd.underlying86 j0
    obtain ⟨a3, p7, p8, _⟩ := DataW.trod_int Tryd.underlying22 j1
    obtain ⟨a4, p9, p10, _⟩ := DataW.trod_int Tryd.underlying86 k0
    obtain ⟨a5, p11, p12, _⟩ := DataW.trod_int Tryd.underlying22 k1
    rw [p2, p4] at e0
    rw [p6, p8] at e1
    rw [p10, p12] at e2
    simp only [DataW.lit.injEq, Lit.int.injEq, true_and] at e0 e1 e2
    obtain ⟨rfl, rfl⟩ := e0
    obtain ⟨rfl, rfl⟩ := e1
    obtain ⟨rfl, rfl⟩ := e2
    simp [cellsU, cellsV] at p1 p3 p5 p7 p9 p11
    subst p1 p3 p5 p7 p9 p11
    exact ⟨fun i hi => hT.cell gTerms i (by simpa [terms] using hi), by simpa using v 0, by simpa using v 1, by simpa using v 2, by simpa using v 3, by simpa using v 4, by simpa using v 5⟩
#print axioms laid_of
end Go.Proofs.YtfnphepiopncbaaDoor.Pick
