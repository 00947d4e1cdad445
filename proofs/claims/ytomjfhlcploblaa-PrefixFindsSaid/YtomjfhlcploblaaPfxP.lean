/- A cache of known beginnings, plainly: its nodes, what is next, what is used. Conditions: none. -/
import Derived.Test.YtomjfhlcploblaaMapr
namespace Go.Proofs.Ytomjfhlcploblaa.Pfx
open Go.Proofs.Ytomjfhlcploblaa.MapsV
set_option linter.unusedVariables false
set_option linter.unusedSimpArgs false

/-- A known beginning: the one it goes on from, its block's tokens, its name, its block, how many go on from it, when it was used. -/
structure Nd where
  up : Int
  toks : List Int
  name : Int
  block : Int
  kids : Int
  used : Int
/-- The nodes, each with where it lies; the last name, the time. -/
structure Cs where
  N : List (Nd × Nat)
  last : Int
  now : Int
def pad (l : List Int) : List Int := l ++ List.replicate (16 - l.length) 0
theorem pad_len {l : List Int} (h : l.length ≤ 16) : (pad l).length = 16 := by simp [pad]; omega
def nx (N : List (Nd × Nat)) (at_ : Int) (blk : List Int) : Option (Nd × Nat) := N.find? fun q => decide ((q.1.up, q.1.toks) = (at_, pad blk))
def nm (N : List (Nd × Nat)) (x : Int) : Option (Nd × Nat) := N.find? fun q => decide (q.1.name = x)
def keysOf (N : List (Nd × Nat)) : List ((Int × List Int) × Nat) := N.map fun q => ((q.1.up, q.1.toks), q.2)
def namesOf (N : List (Nd × Nat)) : List (Int × Nat) := N.map fun q => (q.1.name, q.2)
theorem lget_keys (N : List (Nd × Nat)) (at_ : Int) (blk : List Int) : lget (keysOf N) (at_, pad blk) = (nx N at_ blk).map (·.2) := by
  unfold lget keysOf nx
  rw [List.find?_map, Option.map_map]
  rfl
theorem lget_names (N : List (Nd × Nat)) (x : Int) : lget (namesOf N) x = (nm N x).map (·.2) := by
  unfold lget namesOf nm
  rw [List.find?_map, Option.map_map]
  rfl
/-- All nodes turned alike. -/
def upd (f : Nd → Nd) (N : List (Nd × Nat)) : List (Nd × Nat) := N.map fun q => (f q.1, q.2)
/-- What turns nothing but times and kids. -/
structure Mild (f : Nd → Nd) : Prop where
  up : ∀ n, (f n).up = n.up
  toks : ∀ n, (f n).toks = n.toks
  name : ∀ n, (f n).name = n.name
theorem keys_upd {f : Nd → Nd} (h : Mild f) (N : List (Nd × Nat)) : keysOf (upd f N) = keysOf N := by
  unfold keysOf upd
  rw [List.map_map]
  apply List.map_congr_left
  intro q _
  simp [h.up, h.toks]
theorem names_upd {f : Nd → Nd} (h : Mild f) (N : List (Nd × Nat)) : namesOf (upd f N) = namesOf N := by
  unfold namesOf upd
  rw [List.map_map]
  apply List.map_congr_left
  intro q _
  simp [h.name]
theorem nx_upd {f : Nd → Nd} (h : Mild f) (N : List (Nd × Nat)) (at_ : Int) (blk : List Int) : nx (upd f N) at_ blk = (nx N at_ blk).map fun q => (f q.1, q.2) := by
  unfold nx upd
  rw [List.find?_map]
  congr 1
  apply congrArg (fun p => List.find? p N)
  funext q
  simp [h.up, h.toks]
theorem nm_upd {f : Nd → Nd} (h : Mild f) (N : List (Nd × Nat)) (x : Int) : nm (upd f N) x = (nm N x).map fun q => (f q.1, q.2) := by
  unfold nm upd
  rw [List.find?_map]
  congr 1
  apply congrArg (fun p => List.find? p N)
  funext q
  simp [h.name]
theorem nx_some {N : List (Nd × Nat)} {at_ : Int} {blk : List Int} {q : Nd × Nat} (h : nx N at_ blk = some q) : q ∈ N ∧ q.1.up = at_ ∧ q.1.toks = pad blk := by
  have h1 := List.find?_some h
  simp at h1
  exact ⟨List.mem_of_find?_eq_some h, h1.1, h1.2⟩
theorem nm_some {N : List (Nd × Nat)} {x : Int} {q : Nd × Nat} (h : nm N x = some q) : q ∈ N ∧ q.1.name = x := by
  have h1 := List.find?_some h
  simp at h1
  exact ⟨List.mem_of_find?_eq_some h, h1⟩
def useF (ns : List Int) (t : Int) : Nd → Nd := fun n => if n.name ∈ ns then { n with used := t } else n
def kidF (x : Int) (c : Int) : Nd → Nd := fun n => if n.name = x then { n with kids := n.kids + c } else n
theorem useF_mild (ns : List Int) (t : Int) : Mild (useF ns t) := ⟨fun n => by unfold useF; split <;> rfl, fun n => by unfold useF; split <;> rfl, fun n => by unfold useF; split <;> rfl⟩
theorem kidF_mild (x c : Int) : Mild (kidF x c) := ⟨fun n => by unfold kidF; split <;> rfl, fun n => by unfold kidF; split <;> rfl, fun n => by unfold kidF; split <;> rfl⟩
theorem useF_block (ns : List Int) (t : Int) (n : Nd) : (useF ns t n).block = n.block := by unfold useF; split <;> rfl
theorem kidF_block (x c : Int) (n : Nd) : (kidF x c n).block = n.block := by unfold kidF; split <;> rfl
theorem useF_nil (t : Int) (N : List (Nd × Nat)) : upd (useF [] t) N = N := by
  unfold upd useF
  simp
theorem useF_snoc (ns : List Int) (x t : Int) (N : List (Nd × Nat)) : upd (useF [x] t) (upd (useF ns t) N) = upd (useF (ns ++ [x]) t) N := by
  unfold upd
  rw [List.map_map]
  apply List.map_congr_left
  rintro ⟨⟨a, b, c, d, e, f⟩, p⟩ _
  by_cases h2 : c = x
  · subst h2
    by_cases h1 : c ∈ ns <;> simp [Function.comp, useF, h1]
  · by_cases h1 : c ∈ ns <;> simp [Function.comp, useF, h1, h2]
/-- The way down from one: the nodes whose tokens the text has, block by block. -/
def way (N : List (Nd × Nat)) (Z : Nat) : Nat → Int → List Int → List (Nd × Nat)
  | 0, _, _ => []
  | k + 1, at_, t => if Z ≤ t.length then match nx N at_ (t.take Z) with
    | none => []
    | some q => q :: way N Z k q.1.name (t.drop Z) else []
end Go.Proofs.Ytomjfhlcploblaa.Pfx
