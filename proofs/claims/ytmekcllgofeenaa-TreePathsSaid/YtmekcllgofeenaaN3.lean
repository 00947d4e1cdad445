/- Nodes as triples: read out of memory; what a tree is. Conditions: none. -/
import Derived.Test.YtmekcllgofeenaaProg
import Derived.Test.YtmekcllgofeenaaWWords
import Derived.Test.YtmekcllgofeenaaWLast
import Derived.Test.YtmekcllgofeenaaWMore
import Derived.Test.YtmekcllgofeenaaMaps
import Derived.DeepKeys4
namespace Go.Proofs.Ytmekcllgofeenaa.N3
open Go.RowKit Go.Proofs.YtmekcllgofeenaaW.PrintWords Go.Proofs.YtmekcllgofeenaaW.PrintLast Go.Proofs.YtmekcllgofeenaaW.PrintMore
open Go.Proofs.Ytmekcllgofeenaa.MapsV
set_option linter.unusedVariables false
set_option linter.unusedSimpArgs false

/-- Parent, token, depth. -/
abbrev N3 := Int × Int × Int
def kN : Kd N3 := Kd.pair (Kd.int .i64) (Kd.pair (Kd.int .i64) (Kd.int .i64))
theorem kN_open {w : World} {x : N3} {cs : List Value} (h : kN.K w x cs) : cs = [.int .i64 x.1, .int .i64 x.2.1, .int .i64 x.2.2] := by
  obtain ⟨_, _, rfl, rfl, _, _, rfl, rfl, rfl⟩ := h
  rfl
def tk (l : List N3) (i : Nat) : N3 := l.getD i (0, 0, 0)
def pa (l : List N3) (i : Nat) : Int := (tk l i).1
def tok (l : List N3) (i : Nat) : Int := (tk l i).2.1
def dep (l : List N3) (i : Nat) : Int := (tk l i).2.2

/-- A Lean structure's list, as its pairs. -/
theorem C_iso {α β : Type} {d : Kd α} {f : β → α} {w : World} {A : Option Addr} {n : Nat} {xs : List β} (h : Kd.C (Kd.iso d f) w A n xs) : Kd.C d w A n (xs.map f) := by
  obtain ⟨h1, h2, h3⟩ := h
  refine ⟨by rw [List.length_map]; exact h1, h2, fun hn => ?_⟩
  obtain ⟨ad, e, hc⟩ := h3 hn
  refine ⟨ad, e, fun j p hj => ?_⟩
  rw [List.getElem?_map] at hj
  obtain ⟨q, hq, rfl⟩ := Option.map_eq_some_iff.1 hj
  exact hc j q hq

/-- Element i's three cells. -/
theorem at_N {w : World} {A : Option Addr} {n : Nat} {l : List N3} (h : Kd.C kN w A n l) (i : Nat) (hi : i < n) : ∃ ad : Addr, A = some ad ∧
    w.cell? (ad.add (i * 3)) = some (.int .i64 (pa l i)) ∧ w.cell? ⟨(ad.add (i * 3)).block, (ad.add (i * 3)).off + 1, none⟩ = some (.int .i64 (tok l i)) ∧ w.cell? ⟨(ad.add (i * 3)).block, (ad.add (i * 3)).off + 2, none⟩ = some (.int .i64 (dep l i)) := by
  obtain ⟨ad, c, e, _, hK, hc0⟩ := Kd.C_get h (0, 0, 0) (i : Int) (by omega) (by omega)
  have hc : ∀ j u, c[j]? = some u → w.cell? (ad.add (i * 3 + j)) = some u := hc0
  obtain rfl := kN_open hK
  exact ⟨ad, e, hc 0 _ rfl, by rw [← add_field _ _ 1 (by omega)]; exact hc 1 _ rfl, by rw [← add_field _ _ 2 (by omega)]; exact hc 2 _ rfl⟩

/-! ### what a tree is -/
def okHead (l : List N3) : Prop := 1 ≤ l.length ∧ l.length ≤ 32 ∧ pa l 0 = -1 ∧ dep l 0 = 0
def okAt (l : List N3) (i : Nat) : Prop := 0 ≤ pa l i ∧ pa l i < i ∧ 1 ≤ tok l i ∧ dep l i = wrap64 (dep l (pa l i).toNat + 1) ∧ dep l (i - 1) ≤ dep l i ∧ ∀ k, 1 ≤ k → k < i → ¬ (pa l k = pa l i ∧ tok l k = tok l i)
def isTree (l : List N3) : Prop := okHead l ∧ ∀ i, 1 ≤ i → i < l.length → okAt l i
open Classical in
noncomputable def chk (l : List N3) : Int := if isTree l then 0 else 140
theorem chk_ok {l : List N3} (h : isTree l) : chk l = 0 := by unfold chk; rw [if_pos h]
theorem chk_no {l : List N3} (h : ¬ isTree l) : chk l = 140 := by unfold chk; rw [if_neg h]

/-! ### the map of the nodes seen -/
def eB (p : Int × Int) : Value := .agg #[.int .i64 p.1, .int .i64 p.2]
def eI (n : Nat) : Value := .int .i64 n
theorem eB_inj : ∀ a b, eB a = eB b → a = b := by
  rintro ⟨a, b⟩ ⟨c, d⟩ h
  simp [eB] at h
  exact Prod.ext h.1 h.2
def seen (l : List N3) (i : Nat) : List ((Int × Int) × Nat) := (List.range' 1 (i - 1)).map fun j => ((pa l j, tok l j), j)
theorem seen_succ {l : List N3} {i : Nat} (hi : 1 ≤ i) : seen l (i + 1) = seen l i ++ [((pa l i, tok l i), i)] := by
  unfold seen
  have e : i + 1 - 1 = (i - 1) + 1 := by omega
  rw [e, List.range'_1_concat, List.map_append]
  have e2 : 1 + (i - 1) = i := by omega
  rw [e2]
  rfl
theorem mem_seen {l : List N3} {i : Nat} {p : (Int × Int) × Nat} : p ∈ seen l i ↔ ∃ j, 1 ≤ j ∧ j < i ∧ p = ((pa l j, tok l j), j) := by
  unfold seen
  rw [List.mem_map]
  constructor
  · rintro ⟨j, hj, rfl⟩
    rw [List.mem_range'_1] at hj
    exact ⟨j, by omega, by omega, rfl⟩
  · rintro ⟨j, h1, h2, rfl⟩
    exact ⟨j, by rw [List.mem_range'_1]; omega, rfl⟩
theorem seen_get {l : List N3} {i : Nat} : (lget (seen l i) (pa l i, tok l i)).isSome = true ↔ ∃ k, 1 ≤ k ∧ k < i ∧ pa l k = pa l i ∧ tok l k = tok l i := by
  constructor
  · intro h
    obtain ⟨v, hv⟩ := Option.isSome_iff_exists.1 h
    obtain ⟨j, h1, h2, h3⟩ := mem_seen.1 (mem_of_lget hv)
    simp only [Prod.mk.injEq] at h3
    exact ⟨j, h1, h2, h3.1.1.symm, h3.1.2.symm⟩
  · rintro ⟨k, h1, h2, h3, h4⟩
    cases hg : lget (seen l i) (pa l i, tok l i) with
    | some v => rfl
    | none => exact absurd (by simp [h3, h4]) (lget_eq_none hg _ (mem_seen.2 ⟨k, h1, h2, rfl⟩))
theorem seen_put {l : List N3} {i : Nat} (hi : 1 ≤ i) (h : ∀ k, 1 ≤ k → k < i → ¬ (pa l k = pa l i ∧ tok l k = tok l i)) : lput (seen l i) (pa l i, tok l i) i = seen l (i + 1) := by
  rw [seen_succ hi]
  unfold lput
  rw [any_false]
  · rfl
  · intro p hp e
    obtain ⟨j, h1, h2, rfl⟩ := mem_seen.1 hp
    simp only [Prod.mk.injEq] at e
    exact h j h1 h2 e

/-! ### the key's type -/
theorem laidOut : laidOutB Try.prog = true := by kernel_rfl
theorem law65 : Maps.Keyed Try.prog 65 := Maps.Keyed.of_law (deep_law_laid laidOut (m := 3) (by omega) (of_decide_eq_true (by kernel_rfl)) (by kernel_rfl) (by rw [Try.underlying65]))
theorem key65 {a b : Int} (ha : (Lit.int .i64 a).wf = true) (hb : (Lit.int .i64 b).wf = true) : ∃ q, keyOf Try.prog 65 (eB (a, b)) = some q := by
  unfold keyOf
  rw [Try.underlying65]
  have h1 : Try.prog.keyType 65 = true := by kernel_rfl
  have hc65 : Try.prog.cellsOf 65 = 2 := by kernel_rfl
  have hc3 : Try.prog.cellsOf 3 = 1 := by kernel_rfl
  have h2 : (eB (a, b)).formed Try.prog 65 = true := by simp [eB, Value.formed, Try.underlying65, hc65]
  obtain ⟨m, hm⟩ : ∃ m, Try.prog.types.size = m + 1 := ⟨Try.prog.types.size - 1, by have : 0 < Try.prog.types.size := of_decide_eq_true (by kernel_rfl); omega⟩
  simp only [h1, h2, Bool.and_self, if_true]
  rw [hm]
  simp [Program.keyLits, Try.underlying65, hc65, hc3, Try.underlying3, eB, Value.cells, ha, hb]
theorem zero3 (w : World) : (zeroValue 3).run Try.prog w = .ok (.int .i64 0) w := by kernel_rfl

#print axioms key65
#print axioms law65
end Go.Proofs.Ytmekcllgofeenaa.N3
