/-
  No cell of these rows narrows 'for every input' (looked for: loops, veiled, ifaces, maps, wideKeys, modest, calm, conditions, laid).
  DERIVED. THE GIVEN ROWS OF THIS SEAT. 12 by the template 'for every input the law returns true; each argument reads behind the call as it read before'; 0 by the template 'total and deterministic' (their statements: YtomjfhlcploblaaTotals.lean).
  GIVEN WITH THE SEED: the statements are not yours to turn. If you find one false, say at which input.
  Laid BY PROGRAM, IN A SANDBOX (cutbox-rows.mjs): the forced cells as the released guide's own fill.sh prints them over the translation 5d60699f76ab7e1b… (all of the seat's roots in one cut). By AI agents, Wed Nov 11 2026. No macro, syntax, notation, axiom, sorry.
-/
import Derived.Test.YtomjfhlcploblaaChecked
import GoSem.Claim
import GoSem.ClaimJoined
import GoSem.ClaimMapViews
import Derived.JoinedTies
import Derived.KernelRfl
namespace Go.Proofs.Ytomjfhlcploblaa
/- THE CELL 'sum', in the pinned program and in every row, IS THE sha256 OF THE DUMP (.gsa) THAT YtomjfhlcploblaaProg.lean LOADS. Nothing in Lean hashes anything: it is a label: what it is worth is what the hold of that sum in a sandbox is worth. -/
noncomputable def Try.pinned : Pinned := { name := "ytomjfhlcploblaa", sum := "5d60699f76ab7e1bcf06e6edb0b639075f6374f4ab0c640adac46d169e3519a0", checked := Try.checked }
namespace Rows
def none {H : Type} : Left H := { results := [], args := [] }

/-- 'augurlaw06.PoolKeeps': WHATEVER THE INPUT: true; the input reads as it did. -/
def poolKeepsSpec : ChangeSpec := { name := "poolKeeps", fn := fun _ => fun
  | [d1, d2, d3] => { results := [.lit (.bool true)], args := [d1, d2, d3] }
  | _ => none }
def poolKeepsRow : OpenClaim := { program := "ytomjfhlcploblaa", sum := "5d60699f76ab7e1bcf06e6edb0b639075f6374f4ab0c640adac46d169e3519a0", func := "augur/augurlaw06.PoolKeeps", spec := "poolKeeps", plainKeys := false, apart := false }
def PoolKeepsSaid : Prop := poolKeepsRow.holds Try.pinned (OpenSpec.ofChange poolKeepsSpec)

/-- ITS FALSE NEIGHBOUR: 'it returns false'. Refute it at one input. -/
def poolKeepsWrong : ChangeSpec := { name := "poolKeeps", fn := fun _ => fun
  | [d1, d2, d3] => { results := [.lit (.bool false)], args := [d1, d2, d3] }
  | _ => none }
def PoolKeepsWrongFalsely : Prop := poolKeepsRow.holds Try.pinned (OpenSpec.ofChange poolKeepsWrong)

/-- 'augurlaw06.PoolMoves': WHATEVER THE INPUT: true; the input reads as it did. -/
def poolMovesSpec : ChangeSpec := { name := "poolMoves", fn := fun _ => fun
  | [d1, d2, d3] => { results := [.lit (.bool true)], args := [d1, d2, d3] }
  | _ => none }
def poolMovesRow : OpenClaim := { program := "ytomjfhlcploblaa", sum := "5d60699f76ab7e1bcf06e6edb0b639075f6374f4ab0c640adac46d169e3519a0", func := "augur/augurlaw06.PoolMoves", spec := "poolMoves", plainKeys := false, apart := false }
def PoolMovesSaid : Prop := poolMovesRow.holds Try.pinned (OpenSpec.ofChange poolMovesSpec)

/-- ITS FALSE NEIGHBOUR: 'it returns false'. Refute it at one input. -/
def poolMovesWrong : ChangeSpec := { name := "poolMoves", fn := fun _ => fun
  | [d1, d2, d3] => { results := [.lit (.bool false)], args := [d1, d2, d3] }
  | _ => none }
def PoolMovesWrongFalsely : Prop := poolMovesRow.holds Try.pinned (OpenSpec.ofChange poolMovesWrong)

/-- 'augurlaw06.PoolGrows': WHATEVER THE INPUT: true; the input reads as it did. -/
def poolGrowsSpec : ChangeSpec := { name := "poolGrows", fn := fun _ => fun
  | [d1, d2, d3, d4, d5] => { results := [.lit (.bool true)], args := [d1, d2, d3, d4, d5] }
  | _ => none }
def poolGrowsRow : OpenClaim := { program := "ytomjfhlcploblaa", sum := "5d60699f76ab7e1bcf06e6edb0b639075f6374f4ab0c640adac46d169e3519a0", func := "augur/augurlaw06.PoolGrows", spec := "poolGrows", plainKeys := false, apart := false }
def PoolGrowsSaid : Prop := poolGrowsRow.holds Try.pinned (OpenSpec.ofChange poolGrowsSpec)

/-- ITS FALSE NEIGHBOUR: 'it returns false'. Refute it at one input. -/
def poolGrowsWrong : ChangeSpec := { name := "poolGrows", fn := fun _ => fun
  | [d1, d2, d3, d4, d5] => { results := [.lit (.bool false)], args := [d1, d2, d3, d4, d5] }
  | _ => none }
def PoolGrowsWrongFalsely : Prop := poolGrowsRow.holds Try.pinned (OpenSpec.ofChange poolGrowsWrong)

/-- 'augurlaw06.PoolLeaks': WHATEVER THE INPUT: true; the input reads as it did. -/
def poolLeaksSpec : ChangeSpec := { name := "poolLeaks", fn := fun _ => fun
  | [d1, d2, d3] => { results := [.lit (.bool true)], args := [d1, d2, d3] }
  | _ => none }
def poolLeaksRow : OpenClaim := { program := "ytomjfhlcploblaa", sum := "5d60699f76ab7e1bcf06e6edb0b639075f6374f4ab0c640adac46d169e3519a0", func := "augur/augurlaw06.PoolLeaks", spec := "poolLeaks", plainKeys := false, apart := false }
def PoolLeaksSaid : Prop := poolLeaksRow.holds Try.pinned (OpenSpec.ofChange poolLeaksSpec)

/-- ITS FALSE NEIGHBOUR: 'it returns false'. Refute it at one input. -/
def poolLeaksWrong : ChangeSpec := { name := "poolLeaks", fn := fun _ => fun
  | [d1, d2, d3] => { results := [.lit (.bool false)], args := [d1, d2, d3] }
  | _ => none }
def PoolLeaksWrongFalsely : Prop := poolLeaksRow.holds Try.pinned (OpenSpec.ofChange poolLeaksWrong)

/-- 'augurlaw06.PoolOwns': WHATEVER THE INPUT: true; the input reads as it did. -/
def poolOwnsSpec : ChangeSpec := { name := "poolOwns", fn := fun _ => fun
  | [d1, d2, d3, d4] => { results := [.lit (.bool true)], args := [d1, d2, d3, d4] }
  | _ => none }
def poolOwnsRow : OpenClaim := { program := "ytomjfhlcploblaa", sum := "5d60699f76ab7e1bcf06e6edb0b639075f6374f4ab0c640adac46d169e3519a0", func := "augur/augurlaw06.PoolOwns", spec := "poolOwns", plainKeys := false, apart := false }
def PoolOwnsSaid : Prop := poolOwnsRow.holds Try.pinned (OpenSpec.ofChange poolOwnsSpec)

/-- ITS FALSE NEIGHBOUR: 'it returns false'. Refute it at one input. -/
def poolOwnsWrong : ChangeSpec := { name := "poolOwns", fn := fun _ => fun
  | [d1, d2, d3, d4] => { results := [.lit (.bool false)], args := [d1, d2, d3, d4] }
  | _ => none }
def PoolOwnsWrongFalsely : Prop := poolOwnsRow.holds Try.pinned (OpenSpec.ofChange poolOwnsWrong)

/-- 'augurlaw07.PrefixScripts': WHATEVER THE INPUT: true; the input reads as it did. -/
def prefixScriptsSpec : ChangeSpec := { name := "prefixScripts", fn := fun _ => fun
  | [d1, d2, d3] => { results := [.lit (.bool true)], args := [d1, d2, d3] }
  | _ => none }
def prefixScriptsRow : OpenClaim := { program := "ytomjfhlcploblaa", sum := "5d60699f76ab7e1bcf06e6edb0b639075f6374f4ab0c640adac46d169e3519a0", func := "augur/augurlaw07.PrefixScripts", spec := "prefixScripts", plainKeys := false, apart := false }
def PrefixScriptsSaid : Prop := prefixScriptsRow.holds Try.pinned (OpenSpec.ofChange prefixScriptsSpec)

/-- ITS FALSE NEIGHBOUR: 'it returns false'. Refute it at one input. -/
def prefixScriptsWrong : ChangeSpec := { name := "prefixScripts", fn := fun _ => fun
  | [d1, d2, d3] => { results := [.lit (.bool false)], args := [d1, d2, d3] }
  | _ => none }
def PrefixScriptsWrongFalsely : Prop := prefixScriptsRow.holds Try.pinned (OpenSpec.ofChange prefixScriptsWrong)

/-- 'augurlaw07.PrefixLists': WHATEVER THE INPUT: true; the input reads as it did. -/
def prefixListsSpec : ChangeSpec := { name := "prefixLists", fn := fun _ => fun
  | [d1, d2, d3] => { results := [.lit (.bool true)], args := [d1, d2, d3] }
  | _ => none }
def prefixListsRow : OpenClaim := { program := "ytomjfhlcploblaa", sum := "5d60699f76ab7e1bcf06e6edb0b639075f6374f4ab0c640adac46d169e3519a0", func := "augur/augurlaw07.PrefixLists", spec := "prefixLists", plainKeys := false, apart := false }
def PrefixListsSaid : Prop := prefixListsRow.holds Try.pinned (OpenSpec.ofChange prefixListsSpec)

/-- ITS FALSE NEIGHBOUR: 'it returns false'. Refute it at one input. -/
def prefixListsWrong : ChangeSpec := { name := "prefixLists", fn := fun _ => fun
  | [d1, d2, d3] => { results := [.lit (.bool false)], args := [d1, d2, d3] }
  | _ => none }
def PrefixListsWrongFalsely : Prop := prefixListsRow.holds Try.pinned (OpenSpec.ofChange prefixListsWrong)

/-- 'augurlaw07.PrefixNil': WHATEVER THE INPUT: true; the input reads as it did. -/
def prefixNilSpec : ChangeSpec := { name := "prefixNil", fn := fun _ => fun
  | [d1, d2, d3] => { results := [.lit (.bool true)], args := [d1, d2, d3] }
  | _ => none }
def prefixNilRow : OpenClaim := { program := "ytomjfhlcploblaa", sum := "5d60699f76ab7e1bcf06e6edb0b639075f6374f4ab0c640adac46d169e3519a0", func := "augur/augurlaw07.PrefixNil", spec := "prefixNil", plainKeys := false, apart := false }
def PrefixNilSaid : Prop := prefixNilRow.holds Try.pinned (OpenSpec.ofChange prefixNilSpec)

/-- ITS FALSE NEIGHBOUR: 'it returns false'. Refute it at one input. -/
def prefixNilWrong : ChangeSpec := { name := "prefixNil", fn := fun _ => fun
  | [d1, d2, d3] => { results := [.lit (.bool false)], args := [d1, d2, d3] }
  | _ => none }
def PrefixNilWrongFalsely : Prop := prefixNilRow.holds Try.pinned (OpenSpec.ofChange prefixNilWrong)

/-- 'augurlaw07.PrefixFinds': WHATEVER THE INPUT: true; the input reads as it did. -/
def prefixFindsSpec : ChangeSpec := { name := "prefixFinds", fn := fun _ => fun
  | [d1, d2] => { results := [.lit (.bool true)], args := [d1, d2] }
  | _ => none }
def prefixFindsRow : OpenClaim := { program := "ytomjfhlcploblaa", sum := "5d60699f76ab7e1bcf06e6edb0b639075f6374f4ab0c640adac46d169e3519a0", func := "augur/augurlaw07.PrefixFinds", spec := "prefixFinds", plainKeys := false, apart := false }
def PrefixFindsSaid : Prop := prefixFindsRow.holds Try.pinned (OpenSpec.ofChange prefixFindsSpec)

/-- ITS FALSE NEIGHBOUR: 'it returns false'. Refute it at one input. -/
def prefixFindsWrong : ChangeSpec := { name := "prefixFinds", fn := fun _ => fun
  | [d1, d2] => { results := [.lit (.bool false)], args := [d1, d2] }
  | _ => none }
def PrefixFindsWrongFalsely : Prop := prefixFindsRow.holds Try.pinned (OpenSpec.ofChange prefixFindsWrong)

/-- 'augurlaw07.PrefixShrinks': WHATEVER THE INPUT: true; the input reads as it did. -/
def prefixShrinksSpec : ChangeSpec := { name := "prefixShrinks", fn := fun _ => fun
  | [d1, d2, d3, d4, d5] => { results := [.lit (.bool true)], args := [d1, d2, d3, d4, d5] }
  | _ => none }
def prefixShrinksRow : OpenClaim := { program := "ytomjfhlcploblaa", sum := "5d60699f76ab7e1bcf06e6edb0b639075f6374f4ab0c640adac46d169e3519a0", func := "augur/augurlaw07.PrefixShrinks", spec := "prefixShrinks", plainKeys := false, apart := false }
def PrefixShrinksSaid : Prop := prefixShrinksRow.holds Try.pinned (OpenSpec.ofChange prefixShrinksSpec)

/-- ITS FALSE NEIGHBOUR: 'it returns false'. Refute it at one input. -/
def prefixShrinksWrong : ChangeSpec := { name := "prefixShrinks", fn := fun _ => fun
  | [d1, d2, d3, d4, d5] => { results := [.lit (.bool false)], args := [d1, d2, d3, d4, d5] }
  | _ => none }
def PrefixShrinksWrongFalsely : Prop := prefixShrinksRow.holds Try.pinned (OpenSpec.ofChange prefixShrinksWrong)

/-- 'augurlaw07.PrefixOldest': WHATEVER THE INPUT: true; the input reads as it did. -/
def prefixOldestSpec : ChangeSpec := { name := "prefixOldest", fn := fun _ => fun
  | [d1, d2, d3] => { results := [.lit (.bool true)], args := [d1, d2, d3] }
  | _ => none }
def prefixOldestRow : OpenClaim := { program := "ytomjfhlcploblaa", sum := "5d60699f76ab7e1bcf06e6edb0b639075f6374f4ab0c640adac46d169e3519a0", func := "augur/augurlaw07.PrefixOldest", spec := "prefixOldest", plainKeys := false, apart := false }
def PrefixOldestSaid : Prop := prefixOldestRow.holds Try.pinned (OpenSpec.ofChange prefixOldestSpec)

/-- ITS FALSE NEIGHBOUR: 'it returns false'. Refute it at one input. -/
def prefixOldestWrong : ChangeSpec := { name := "prefixOldest", fn := fun _ => fun
  | [d1, d2, d3] => { results := [.lit (.bool false)], args := [d1, d2, d3] }
  | _ => none }
def PrefixOldestWrongFalsely : Prop := prefixOldestRow.holds Try.pinned (OpenSpec.ofChange prefixOldestWrong)

/-- 'augurlaw06.PoolCalls': WHATEVER THE INPUT: true; the input reads as it did. -/
def poolCallsSpec : ChangeSpec := { name := "poolCalls", fn := fun _ => fun
  | [d] => { results := [.lit (.bool true)], args := [d] }
  | _ => none }
def poolCallsRow : OpenClaim := { program := "ytomjfhlcploblaa", sum := "5d60699f76ab7e1bcf06e6edb0b639075f6374f4ab0c640adac46d169e3519a0", func := "augur/augurlaw06.PoolCalls", spec := "poolCalls", plainKeys := false, apart := false }
def PoolCallsSaid : Prop := poolCallsRow.holds Try.pinned (OpenSpec.ofChange poolCallsSpec)

/-- ITS FALSE NEIGHBOUR: 'it returns false'. Refute it at one input. -/
def poolCallsWrong : ChangeSpec := { name := "poolCalls", fn := fun _ => fun
  | [d] => { results := [.lit (.bool false)], args := [d] }
  | _ => none }
def PoolCallsWrongFalsely : Prop := poolCallsRow.holds Try.pinned (OpenSpec.ofChange poolCallsWrong)

/- THE SECOND FORM. 'bulk': how many values and letters a reading holds, each counted each time it is reached (what is shared counts as often as it is met; a slice's spare places count too). A statement '..UptoSaid' is the law's where the arguments, and the package variables that the reading takes, are together of bulk at most 1048576: NARROWER than '..Said'. Prove '..Said' where nothing that the law and all that it calls make is longer than what came in: it says more and counts as full. Else prove '..UptoSaid'. A law counts once. -/
mutual
def uptoBulk {H : Type} : DataW H → Nat
  | .lit (.string bytes) => bytes.length + 1
  | .lit _ => 1
  | .nil => 1
  | .ptr d => uptoBulk d + 1
  | .slice elems spare => uptoBulkAll elems + uptoBulkAll spare + 1
  | .agg parts => uptoBulkAll parts + 1
  | .iface _ d => uptoBulk d + 1
  | .map entries => uptoBulkEntries entries + 1
  | .held _ => 1
def uptoBulkAll {H : Type} : List (DataW H) → Nat
  | [] => 0
  | d :: r => uptoBulk d + uptoBulkAll r
def uptoBulkEntries {H : Type} : List (Lit × DataW H) → Nat
  | [] => 0
  | x :: r => uptoBulkEntry x + uptoBulkEntries r
def uptoBulkEntry {H : Type} : Lit × DataW H → Nat
  | (.string bytes, d) => bytes.length + uptoBulk d + 1
  | (_, d) => uptoBulk d + 1
 end
def uptoSmall : (H : Type) → List (DataW H) → Bool := fun _ ds => decide (uptoBulkAll ds ≤ 1048576)
def OpenSpec.upto (s : _root_.Go.ChangeSpec) : _root_.Go.OpenSpec := { _root_.Go.OpenSpec.ofChange s with cond := some uptoSmall }

/-- 'augurlaw06.PoolKeeps', WHERE WHAT IT READS IS OF BULK AT MOST 1048576: true; the input reads as it did. -/
def poolKeepsUptoRow : OpenClaim := { program := "ytomjfhlcploblaa", sum := "5d60699f76ab7e1bcf06e6edb0b639075f6374f4ab0c640adac46d169e3519a0", func := "augur/augurlaw06.PoolKeeps", spec := "poolKeeps", plainKeys := false, apart := false, narrowed := true }
def PoolKeepsUptoSaid : Prop := poolKeepsUptoRow.holds Try.pinned (OpenSpec.upto poolKeepsSpec)

/-- 'augurlaw06.PoolMoves', WHERE WHAT IT READS IS OF BULK AT MOST 1048576: true; the input reads as it did. -/
def poolMovesUptoRow : OpenClaim := { program := "ytomjfhlcploblaa", sum := "5d60699f76ab7e1bcf06e6edb0b639075f6374f4ab0c640adac46d169e3519a0", func := "augur/augurlaw06.PoolMoves", spec := "poolMoves", plainKeys := false, apart := false, narrowed := true }
def PoolMovesUptoSaid : Prop := poolMovesUptoRow.holds Try.pinned (OpenSpec.upto poolMovesSpec)

/-- 'augurlaw06.PoolGrows', WHERE WHAT IT READS IS OF BULK AT MOST 1048576: true; the input reads as it did. -/
def poolGrowsUptoRow : OpenClaim := { program := "ytomjfhlcploblaa", sum := "5d60699f76ab7e1bcf06e6edb0b639075f6374f4ab0c640adac46d169e3519a0", func := "augur/augurlaw06.PoolGrows", spec := "poolGrows", plainKeys := false, apart := false, narrowed := true }
def PoolGrowsUptoSaid : Prop := poolGrowsUptoRow.holds Try.pinned (OpenSpec.upto poolGrowsSpec)

/-- 'augurlaw06.PoolLeaks', WHERE WHAT IT READS IS OF BULK AT MOST 1048576: true; the input reads as it did. -/
def poolLeaksUptoRow : OpenClaim := { program := "ytomjfhlcploblaa", sum := "5d60699f76ab7e1bcf06e6edb0b639075f6374f4ab0c640adac46d169e3519a0", func := "augur/augurlaw06.PoolLeaks", spec := "poolLeaks", plainKeys := false, apart := false, narrowed := true }
def PoolLeaksUptoSaid : Prop := poolLeaksUptoRow.holds Try.pinned (OpenSpec.upto poolLeaksSpec)

/-- 'augurlaw06.PoolOwns', WHERE WHAT IT READS IS OF BULK AT MOST 1048576: true; the input reads as it did. -/
def poolOwnsUptoRow : OpenClaim := { program := "ytomjfhlcploblaa", sum := "5d60699f76ab7e1bcf06e6edb0b639075f6374f4ab0c640adac46d169e3519a0", func := "augur/augurlaw06.PoolOwns", spec := "poolOwns", plainKeys := false, apart := false, narrowed := true }
def PoolOwnsUptoSaid : Prop := poolOwnsUptoRow.holds Try.pinned (OpenSpec.upto poolOwnsSpec)

/-- 'augurlaw07.PrefixScripts', WHERE WHAT IT READS IS OF BULK AT MOST 1048576: true; the input reads as it did. -/
def prefixScriptsUptoRow : OpenClaim := { program := "ytomjfhlcploblaa", sum := "5d60699f76ab7e1bcf06e6edb0b639075f6374f4ab0c640adac46d169e3519a0", func := "augur/augurlaw07.PrefixScripts", spec := "prefixScripts", plainKeys := false, apart := false, narrowed := true }
def PrefixScriptsUptoSaid : Prop := prefixScriptsUptoRow.holds Try.pinned (OpenSpec.upto prefixScriptsSpec)

/-- 'augurlaw07.PrefixLists', WHERE WHAT IT READS IS OF BULK AT MOST 1048576: true; the input reads as it did. -/
def prefixListsUptoRow : OpenClaim := { program := "ytomjfhlcploblaa", sum := "5d60699f76ab7e1bcf06e6edb0b639075f6374f4ab0c640adac46d169e3519a0", func := "augur/augurlaw07.PrefixLists", spec := "prefixLists", plainKeys := false, apart := false, narrowed := true }
def PrefixListsUptoSaid : Prop := prefixListsUptoRow.holds Try.pinned (OpenSpec.upto prefixListsSpec)

/-- 'augurlaw07.PrefixNil', WHERE WHAT IT READS IS OF BULK AT MOST 1048576: true; the input reads as it did. -/
def prefixNilUptoRow : OpenClaim := { program := "ytomjfhlcploblaa", sum := "5d60699f76ab7e1bcf06e6edb0b639075f6374f4ab0c640adac46d169e3519a0", func := "augur/augurlaw07.PrefixNil", spec := "prefixNil", plainKeys := false, apart := false, narrowed := true }
def PrefixNilUptoSaid : Prop := prefixNilUptoRow.holds Try.pinned (OpenSpec.upto prefixNilSpec)

/-- 'augurlaw07.PrefixFinds', WHERE WHAT IT READS IS OF BULK AT MOST 1048576: true; the input reads as it did. -/
def prefixFindsUptoRow : OpenClaim := { program := "ytomjfhlcploblaa", sum := "5d60699f76ab7e1bcf06e6edb0b639075f6374f4ab0c640adac46d169e3519a0", func := "augur/augurlaw07.PrefixFinds", spec := "prefixFinds", plainKeys := false, apart := false, narrowed := true }
def PrefixFindsUptoSaid : Prop := prefixFindsUptoRow.holds Try.pinned (OpenSpec.upto prefixFindsSpec)

/-- 'augurlaw07.PrefixShrinks', WHERE WHAT IT READS IS OF BULK AT MOST 1048576: true; the input reads as it did. -/
def prefixShrinksUptoRow : OpenClaim := { program := "ytomjfhlcploblaa", sum := "5d60699f76ab7e1bcf06e6edb0b639075f6374f4ab0c640adac46d169e3519a0", func := "augur/augurlaw07.PrefixShrinks", spec := "prefixShrinks", plainKeys := false, apart := false, narrowed := true }
def PrefixShrinksUptoSaid : Prop := prefixShrinksUptoRow.holds Try.pinned (OpenSpec.upto prefixShrinksSpec)

/-- 'augurlaw07.PrefixOldest', WHERE WHAT IT READS IS OF BULK AT MOST 1048576: true; the input reads as it did. -/
def prefixOldestUptoRow : OpenClaim := { program := "ytomjfhlcploblaa", sum := "5d60699f76ab7e1bcf06e6edb0b639075f6374f4ab0c640adac46d169e3519a0", func := "augur/augurlaw07.PrefixOldest", spec := "prefixOldest", plainKeys := false, apart := false, narrowed := true }
def PrefixOldestUptoSaid : Prop := prefixOldestUptoRow.holds Try.pinned (OpenSpec.upto prefixOldestSpec)

/-- 'augurlaw06.PoolCalls', WHERE WHAT IT READS IS OF BULK AT MOST 1048576: true; the input reads as it did. -/
def poolCallsUptoRow : OpenClaim := { program := "ytomjfhlcploblaa", sum := "5d60699f76ab7e1bcf06e6edb0b639075f6374f4ab0c640adac46d169e3519a0", func := "augur/augurlaw06.PoolCalls", spec := "poolCalls", plainKeys := false, apart := false, narrowed := true }
def PoolCallsUptoSaid : Prop := poolCallsUptoRow.holds Try.pinned (OpenSpec.upto poolCallsSpec)

end Rows
end Go.Proofs.Ytomjfhlcploblaa
