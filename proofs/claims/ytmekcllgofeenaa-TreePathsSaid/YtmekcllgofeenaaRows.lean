/-
  No cell of these rows narrows 'for every input' (looked for: loops, veiled, ifaces, maps, wideKeys, modest, calm, conditions, laid).
  DERIVED. THE GIVEN ROWS OF THIS SEAT. 7 by the template 'for every input the law returns true; each argument reads behind the call as it read before'; 0 by the template 'total and deterministic' (their statements: YtmekcllgofeenaaTotals.lean).
  GIVEN WITH THE SEED: the statements are not yours to turn. If you find one false, say at which input.
  Laid BY PROGRAM, IN A SANDBOX (cutbox-rows.mjs): the forced cells as the released guide's own fill.sh prints them over the translation 5e344ff11fd14796… (all of the seat's roots in one cut). By AI agents, Wed Nov 11 2026. No macro, syntax, notation, axiom, sorry.
-/
import Derived.Test.YtmekcllgofeenaaChecked
import GoSem.Claim
import GoSem.ClaimJoined
import GoSem.ClaimMapViews
import Derived.JoinedTies
import Derived.KernelRfl
namespace Go.Proofs.Ytmekcllgofeenaa
/- THE CELL 'sum', in the pinned program and in every row, IS THE sha256 OF THE DUMP (.gsa) THAT YtmekcllgofeenaaProg.lean LOADS. Nothing in Lean hashes anything: it is a label: what it is worth is what the hold of that sum in a sandbox is worth. -/
noncomputable def Try.pinned : Pinned := { name := "ytmekcllgofeenaa", sum := "5e344ff11fd14796db102c7208048e15dc88fd38f5249c9aa762fa81442a12bb", checked := Try.checked }
namespace Rows
def none {H : Type} : Left H := { results := [], args := [] }

/-- 'augurlaw10.PickChecks': WHATEVER THE INPUT: true; the input reads as it did. -/
def pickChecksSpec : ChangeSpec := { name := "pickChecks", fn := fun _ => fun
  | [d] => { results := [.lit (.bool true)], args := [d] }
  | _ => none }
def pickChecksRow : OpenClaim := { program := "ytmekcllgofeenaa", sum := "5e344ff11fd14796db102c7208048e15dc88fd38f5249c9aa762fa81442a12bb", func := "augur/augurlaw10.PickChecks", spec := "pickChecks", unfollowed := true, recurses := true, plainKeys := false, apart := false }
def PickChecksSaid : Prop := pickChecksRow.holds Try.pinned (OpenSpec.ofChange pickChecksSpec)

/-- ITS FALSE NEIGHBOUR: 'it returns false'. Refute it at one input. -/
def pickChecksWrong : ChangeSpec := { name := "pickChecks", fn := fun _ => fun
  | [d] => { results := [.lit (.bool false)], args := [d] }
  | _ => none }
def PickChecksWrongFalsely : Prop := pickChecksRow.holds Try.pinned (OpenSpec.ofChange pickChecksWrong)

/-- 'augurlaw14.TreeJoins': WHATEVER THE INPUT: true; the input reads as it did. -/
def treeJoinsSpec : ChangeSpec := { name := "treeJoins", fn := fun _ => fun
  | [d] => { results := [.lit (.bool true)], args := [d] }
  | _ => none }
def treeJoinsRow : OpenClaim := { program := "ytmekcllgofeenaa", sum := "5e344ff11fd14796db102c7208048e15dc88fd38f5249c9aa762fa81442a12bb", func := "augur/augurlaw14.TreeJoins", spec := "treeJoins", plainKeys := false, apart := false }
def TreeJoinsSaid : Prop := treeJoinsRow.holds Try.pinned (OpenSpec.ofChange treeJoinsSpec)

/-- ITS FALSE NEIGHBOUR: 'it returns false'. Refute it at one input. -/
def treeJoinsWrong : ChangeSpec := { name := "treeJoins", fn := fun _ => fun
  | [d] => { results := [.lit (.bool false)], args := [d] }
  | _ => none }
def TreeJoinsWrongFalsely : Prop := treeJoinsRow.holds Try.pinned (OpenSpec.ofChange treeJoinsWrong)

/-- 'augurlaw14.TreeChecks': WHATEVER THE INPUT: true; the input reads as it did. -/
def treeChecksSpec : ChangeSpec := { name := "treeChecks", fn := fun _ => fun
  | [d] => { results := [.lit (.bool true)], args := [d] }
  | _ => none }
def treeChecksRow : OpenClaim := { program := "ytmekcllgofeenaa", sum := "5e344ff11fd14796db102c7208048e15dc88fd38f5249c9aa762fa81442a12bb", func := "augur/augurlaw14.TreeChecks", spec := "treeChecks", plainKeys := false, apart := false }
def TreeChecksSaid : Prop := treeChecksRow.holds Try.pinned (OpenSpec.ofChange treeChecksSpec)

/-- ITS FALSE NEIGHBOUR: 'it returns false'. Refute it at one input. -/
def treeChecksWrong : ChangeSpec := { name := "treeChecks", fn := fun _ => fun
  | [d] => { results := [.lit (.bool false)], args := [d] }
  | _ => none }
def TreeChecksWrongFalsely : Prop := treeChecksRow.holds Try.pinned (OpenSpec.ofChange treeChecksWrong)

/-- 'augurlaw14.TreeAboves': WHATEVER THE INPUT: true; the input reads as it did. -/
def treeAbovesSpec : ChangeSpec := { name := "treeAboves", fn := fun _ => fun
  | [d] => { results := [.lit (.bool true)], args := [d] }
  | _ => none }
def treeAbovesRow : OpenClaim := { program := "ytmekcllgofeenaa", sum := "5e344ff11fd14796db102c7208048e15dc88fd38f5249c9aa762fa81442a12bb", func := "augur/augurlaw14.TreeAboves", spec := "treeAboves", recurses := true, plainKeys := false, apart := false }
def TreeAbovesSaid : Prop := treeAbovesRow.holds Try.pinned (OpenSpec.ofChange treeAbovesSpec)

/-- ITS FALSE NEIGHBOUR: 'it returns false'. Refute it at one input. -/
def treeAbovesWrong : ChangeSpec := { name := "treeAboves", fn := fun _ => fun
  | [d] => { results := [.lit (.bool false)], args := [d] }
  | _ => none }
def TreeAbovesWrongFalsely : Prop := treeAbovesRow.holds Try.pinned (OpenSpec.ofChange treeAbovesWrong)

/-- 'augurlaw14.TreeCuts': WHATEVER THE INPUT: true; the input reads as it did. -/
def treeCutsSpec : ChangeSpec := { name := "treeCuts", fn := fun _ => fun
  | [d1, d2] => { results := [.lit (.bool true)], args := [d1, d2] }
  | _ => none }
def treeCutsRow : OpenClaim := { program := "ytmekcllgofeenaa", sum := "5e344ff11fd14796db102c7208048e15dc88fd38f5249c9aa762fa81442a12bb", func := "augur/augurlaw14.TreeCuts", spec := "treeCuts", plainKeys := false, apart := false }
def TreeCutsSaid : Prop := treeCutsRow.holds Try.pinned (OpenSpec.ofChange treeCutsSpec)

/-- ITS FALSE NEIGHBOUR: 'it returns false'. Refute it at one input. -/
def treeCutsWrong : ChangeSpec := { name := "treeCuts", fn := fun _ => fun
  | [d1, d2] => { results := [.lit (.bool false)], args := [d1, d2] }
  | _ => none }
def TreeCutsWrongFalsely : Prop := treeCutsRow.holds Try.pinned (OpenSpec.ofChange treeCutsWrong)

/-- 'augurlaw14.TreePaths': WHATEVER THE INPUT: true; the input reads as it did. -/
def treePathsSpec : ChangeSpec := { name := "treePaths", fn := fun _ => fun
  | [d1, d2] => { results := [.lit (.bool true)], args := [d1, d2] }
  | _ => none }
def treePathsRow : OpenClaim := { program := "ytmekcllgofeenaa", sum := "5e344ff11fd14796db102c7208048e15dc88fd38f5249c9aa762fa81442a12bb", func := "augur/augurlaw14.TreePaths", spec := "treePaths", unfollowed := true, recurses := true, plainKeys := false, apart := false }
def TreePathsSaid : Prop := treePathsRow.holds Try.pinned (OpenSpec.ofChange treePathsSpec)

/-- ITS FALSE NEIGHBOUR: 'it returns false'. Refute it at one input. -/
def treePathsWrong : ChangeSpec := { name := "treePaths", fn := fun _ => fun
  | [d1, d2] => { results := [.lit (.bool false)], args := [d1, d2] }
  | _ => none }
def TreePathsWrongFalsely : Prop := treePathsRow.holds Try.pinned (OpenSpec.ofChange treePathsWrong)

/-- 'augurlaw14.TreeMasks': WHATEVER THE INPUT: true; the input reads as it did. -/
def treeMasksSpec : ChangeSpec := { name := "treeMasks", fn := fun _ => fun
  | [d] => { results := [.lit (.bool true)], args := [d] }
  | _ => none }
def treeMasksRow : OpenClaim := { program := "ytmekcllgofeenaa", sum := "5e344ff11fd14796db102c7208048e15dc88fd38f5249c9aa762fa81442a12bb", func := "augur/augurlaw14.TreeMasks", spec := "treeMasks", unfollowed := true, recurses := true, plainKeys := false, apart := false }
def TreeMasksSaid : Prop := treeMasksRow.holds Try.pinned (OpenSpec.ofChange treeMasksSpec)

/-- ITS FALSE NEIGHBOUR: 'it returns false'. Refute it at one input. -/
def treeMasksWrong : ChangeSpec := { name := "treeMasks", fn := fun _ => fun
  | [d] => { results := [.lit (.bool false)], args := [d] }
  | _ => none }
def TreeMasksWrongFalsely : Prop := treeMasksRow.holds Try.pinned (OpenSpec.ofChange treeMasksWrong)

/- THE SECOND FORM. 'bulk': how many values and letters a reading holds, each counted each time it is reached (what is shared counts as often as it is met; a slice's spare places count too). A statement '..UptoSaid' is the law's where the arguments, and the package variables that the reading takes, are together of bulk at most 1048576: NARROWER than '..Said'. Prove '..Said' where nothing that the law and all that it calls make is longer than what came in: it says more and counts as full. Else prove '..UptoSaid'. A law counts once. -/
mutual
def uptoBulk {H : Type} : DataW H → Nat
  | .lit (.string bytes) => bytes.length + 1
  | .lit _ => 1
  | .nil => 1
  | .ptr d => uptoBulk d + 1
  | .slice elems spare => uptoBulkAll elems + uptoBulkAll spare + 1
  | .agg parts => uptoBulkAll parts + 1
  | .iface _ d => uptoBulk d + 1
  | .map entries => uptoBulkEntries entries + 1
  | .held _ => 1
def uptoBulkAll {H : Type} : List (DataW H) → Nat
  | [] => 0
  | d :: r => uptoBulk d + uptoBulkAll r
def uptoBulkEntries {H : Type} : List (Lit × DataW H) → Nat
  | [] => 0
  | x :: r => uptoBulkEntry x + uptoBulkEntries r
def uptoBulkEntry {H : Type} : Lit × DataW H → Nat
  | (.string bytes, d) => bytes.length + uptoBulk d + 1
  | (_, d) => uptoBulk d + 1
 end
def uptoSmall : (H : Type) → List (DataW H) → Bool := fun _ ds => decide (uptoBulkAll ds ≤ 1048576)
def OpenSpec.upto (s : _root_.Go.ChangeSpec) : _root_.Go.OpenSpec := { _root_.Go.OpenSpec.ofChange s with cond := some uptoSmall }

/-- 'augurlaw10.PickChecks', WHERE WHAT IT READS IS OF BULK AT MOST 1048576: true; the input reads as it did. -/
def pickChecksUptoRow : OpenClaim := { program := "ytmekcllgofeenaa", sum := "5e344ff11fd14796db102c7208048e15dc88fd38f5249c9aa762fa81442a12bb", func := "augur/augurlaw10.PickChecks", spec := "pickChecks", unfollowed := true, recurses := true, plainKeys := false, apart := false, narrowed := true }
def PickChecksUptoSaid : Prop := pickChecksUptoRow.holds Try.pinned (OpenSpec.upto pickChecksSpec)

/-- 'augurlaw14.TreeJoins', WHERE WHAT IT READS IS OF BULK AT MOST 1048576: true; the input reads as it did. -/
def treeJoinsUptoRow : OpenClaim := { program := "ytmekcllgofeenaa", sum := "5e344ff11fd14796db102c7208048e15dc88fd38f5249c9aa762fa81442a12bb", func := "augur/augurlaw14.TreeJoins", spec := "treeJoins", plainKeys := false, apart := false, narrowed := true }
def TreeJoinsUptoSaid : Prop := treeJoinsUptoRow.holds Try.pinned (OpenSpec.upto treeJoinsSpec)

/-- 'augurlaw14.TreeChecks', WHERE WHAT IT READS IS OF BULK AT MOST 1048576: true; the input reads as it did. -/
def treeChecksUptoRow : OpenClaim := { program := "ytmekcllgofeenaa", sum := "5e344ff11fd14796db102c7208048e15dc88fd38f5249c9aa762fa81442a12bb", func := "augur/augurlaw14.TreeChecks", spec := "treeChecks", plainKeys := false, apart := false, narrowed := true }
def TreeChecksUptoSaid : Prop := treeChecksUptoRow.holds Try.pinned (OpenSpec.upto treeChecksSpec)

/-- 'augurlaw14.TreeAboves', WHERE WHAT IT READS IS OF BULK AT MOST 1048576: true; the input reads as it did. -/
def treeAbovesUptoRow : OpenClaim := { program := "ytmekcllgofeenaa", sum := "5e344ff11fd14796db102c7208048e15dc88fd38f5249c9aa762fa81442a12bb", func := "augur/augurlaw14.TreeAboves", spec := "treeAboves", recurses := true, plainKeys := false, apart := false, narrowed := true }
def TreeAbovesUptoSaid : Prop := treeAbovesUptoRow.holds Try.pinned (OpenSpec.upto treeAbovesSpec)

/-- 'augurlaw14.TreeCuts', WHERE WHAT IT READS IS OF BULK AT MOST 1048576: true; the input reads as it did. -/
def treeCutsUptoRow : OpenClaim := { program := "ytmekcllgofeenaa", sum := "5e344ff11fd14796db102c7208048e15dc88fd38f5249c9aa762fa81442a12bb", func := "augur/augurlaw14.TreeCuts", spec := "treeCuts", plainKeys := false, apart := false, narrowed := true }
def TreeCutsUptoSaid : Prop := treeCutsUptoRow.holds Try.pinned (OpenSpec.upto treeCutsSpec)

/-- 'augurlaw14.TreePaths', WHERE WHAT IT READS IS OF BULK AT MOST 1048576: true; the input reads as it did. -/
def treePathsUptoRow : OpenClaim := { program := "ytmekcllgofeenaa", sum := "5e344ff11fd14796db102c7208048e15dc88fd38f5249c9aa762fa81442a12bb", func := "augur/augurlaw14.TreePaths", spec := "treePaths", unfollowed := true, recurses := true, plainKeys := false, apart := false, narrowed := true }
def TreePathsUptoSaid : Prop := treePathsUptoRow.holds Try.pinned (OpenSpec.upto treePathsSpec)

/-- 'augurlaw14.TreeMasks', WHERE WHAT IT READS IS OF BULK AT MOST 1048576: true; the input reads as it did. -/
def treeMasksUptoRow : OpenClaim := { program := "ytmekcllgofeenaa", sum := "5e344ff11fd14796db102c7208048e15dc88fd38f5249c9aa762fa81442a12bb", func := "augur/augurlaw14.TreeMasks", spec := "treeMasks", unfollowed := true, recurses := true, plainKeys := false, apart := false, narrowed := true }
def TreeMasksUptoSaid : Prop := treeMasksUptoRow.holds Try.pinned (OpenSpec.upto treeMasksSpec)

end Rows
end Go.Proofs.Ytmekcllgofeenaa
