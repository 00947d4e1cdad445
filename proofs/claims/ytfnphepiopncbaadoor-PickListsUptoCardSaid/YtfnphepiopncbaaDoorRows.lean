/-
  NARROWER THAN 'FOR EVERY INPUT', by the rows' own cells (each row's printed sentence says how): PickChances: laid · PickChooses: laid · PickLists: laid · PickSound: laid · PickDraws: laid · PickGreedy: laid · PickMoves: laid · PickSeen: laid · PickNested: laid.
  DERIVED. THE GIVEN ROWS OF THIS SEAT. 9 by the template 'for every input the law returns true; each argument reads behind the call as it read before'; 0 by the template 'total and deterministic' (their statements: YtfnphepiopncbaaDoorTotals.lean).
  GIVEN WITH THE SEED: the statements are not yours to turn. If you find one false, say at which input.
  Laid BY PROGRAM, IN A SANDBOX (cutbox-rows.mjs): the forced cells as the released guide's own fill.sh prints them over the translation 5f979a14d7540b0d… (all of the seat's roots in one cut). By AI agents, Wed Nov 11 2026. No macro, syntax, notation, axiom, sorry.
-/
import Derived.Test.YtfnphepiopncbaaDoorChecked
import GoSem.Claim
import GoSem.ClaimJoined
import GoSem.ClaimMapViews
import Derived.JoinedTies
import Derived.KernelRfl
namespace Go.Proofs.YtfnphepiopncbaaDoor
/- THE CELL 'sum', in the pinned program and in every row, IS THE sha256 OF THE DUMP (.gsa) THAT YtfnphepiopncbaaDoorProg.lean LOADS. Nothing in Lean hashes anything: it is a label: what it is worth is what the hold of that sum in a sandbox is worth. -/
noncomputable def Tryd.pinned : Pinned := { name := "ytfnphepiopncbaadoor", sum := "5f979a14d7540b0d7a8933d2d886aea2ad16b425f964ef283d857f8f8015a265", checked := Tryd.checked }
namespace Rows
def none {H : Type} : Left H := { results := [], args := [] }

/- WHAT THE LISTED PACKAGE-LEVEL VARIABLES READ AS WHEN THE CALL BEGINS. Each datum BY PROGRAM (the guide's laid-datum.mjs) off the statement by which the dump's own 'gosem.cut.vars' lays the variable. In a bare row this is a premise. The card (YtfnphepiopncbaaDoorCards.lean) ties it to the program's text. -/
def laid_augur_fix_terms {H : Type} : DataW H := .agg [.lit (.int .i64 1073741824), .lit (.int .i64 (-1073764153)), .lit (.int .i64 536691957), .lit (.int .i64 (-175978408)), .lit (.int .i64 35472643)]
def laid_augur_draw_rounds {H : Type} : DataW H := .agg [.agg [.lit (.int .u64 30), .lit (.int .u64 13787848793156543929)], .agg [.lit (.int .u64 27), .lit (.int .u64 10723151780598845931)], .agg [.lit (.int .u64 31), .lit (.int .u64 1)]]

/-- 'augurlaw10.PickChances': WHATEVER THE INPUT: true; the input reads as it did. -/
def pickChancesSpec : ChangeSpec := { name := "pickChances", fn := fun _ => fun
  | [d1, d2, d3, d4] => { results := [.lit (.bool true)], args := [d1, d2, d3, d4] }
  | _ => none }
def pickChancesRow : OpenClaim := { program := "ytfnphepiopncbaadoor", sum := "5f979a14d7540b0d7a8933d2d886aea2ad16b425f964ef283d857f8f8015a265", func := "augur/augurlaw10.PickChances", spec := "pickChances", unfollowed := true, recurses := true, named := ["augur/fix.terms", "augur/draw.rounds"], apart := false, laid := [("augur/fix.terms", laid_augur_fix_terms), ("augur/draw.rounds", laid_augur_draw_rounds)] }
def PickChancesSaid : Prop := pickChancesRow.holds Tryd.pinned (OpenSpec.ofChange pickChancesSpec)

/-- ITS FALSE NEIGHBOUR: 'it returns false'. Refute it at one input. -/
def pickChancesWrong : ChangeSpec := { name := "pickChances", fn := fun _ => fun
  | [d1, d2, d3, d4] => { results := [.lit (.bool false)], args := [d1, d2, d3, d4] }
  | _ => none }
def PickChancesWrongFalsely : Prop := pickChancesRow.holds Tryd.pinned (OpenSpec.ofChange pickChancesWrong)

/-- 'augurlaw10.PickChooses': WHATEVER THE INPUT: true; the input reads as it did. -/
def pickChoosesSpec : ChangeSpec := { name := "pickChooses", fn := fun _ => fun
  | [d1, d2, d3, d4, d5] => { results := [.lit (.bool true)], args := [d1, d2, d3, d4, d5] }
  | _ => none }
def pickChoosesRow : OpenClaim := { program := "ytfnphepiopncbaadoor", sum := "5f979a14d7540b0d7a8933d2d886aea2ad16b425f964ef283d857f8f8015a265", func := "augur/augurlaw10.PickChooses", spec := "pickChooses", unfollowed := true, recurses := true, named := ["augur/fix.terms", "augur/draw.rounds"], apart := false, laid := [("augur/fix.terms", laid_augur_fix_terms), ("augur/draw.rounds", laid_augur_draw_rounds)] }
def PickChoosesSaid : Prop := pickChoosesRow.holds Tryd.pinned (OpenSpec.ofChange pickChoosesSpec)

/-- ITS FALSE NEIGHBOUR: 'it returns false'. Refute it at one input. -/
def pickChoosesWrong : ChangeSpec := { name := "pickChooses", fn := fun _ => fun
  | [d1, d2, d3, d4, d5] => { results := [.lit (.bool false)], args := [d1, d2, d3, d4, d5] }
  | _ => none }
def PickChoosesWrongFalsely : Prop := pickChoosesRow.holds Tryd.pinned (OpenSpec.ofChange pickChoosesWrong)

/-- 'augurlaw10.PickLists': WHATEVER THE INPUT: true; the input reads as it did. -/
def pickListsSpec : ChangeSpec := { name := "pickLists", fn := fun _ => fun
  | [d1, d2, d3, d4] => { results := [.lit (.bool true)], args := [d1, d2, d3, d4] }
  | _ => none }
def pickListsRow : OpenClaim := { program := "ytfnphepiopncbaadoor", sum := "5f979a14d7540b0d7a8933d2d886aea2ad16b425f964ef283d857f8f8015a265", func := "augur/augurlaw10.PickLists", spec := "pickLists", unfollowed := true, recurses := true, named := ["augur/fix.terms", "augur/draw.rounds"], apart := false, laid := [("augur/fix.terms", laid_augur_fix_terms), ("augur/draw.rounds", laid_augur_draw_rounds)] }
def PickListsSaid : Prop := pickListsRow.holds Tryd.pinned (OpenSpec.ofChange pickListsSpec)

/-- ITS FALSE NEIGHBOUR: 'it returns false'. Refute it at one input. -/
def pickListsWrong : ChangeSpec := { name := "pickLists", fn := fun _ => fun
  | [d1, d2, d3, d4] => { results := [.lit (.bool false)], args := [d1, d2, d3, d4] }
  | _ => none }
def PickListsWrongFalsely : Prop := pickListsRow.holds Tryd.pinned (OpenSpec.ofChange pickListsWrong)

/-- 'augurlaw10.PickSound': WHATEVER THE INPUT: true; the input reads as it did. -/
def pickSoundSpec : ChangeSpec := { name := "pickSound", fn := fun _ => fun
  | [d1, d2, d3, d4, d5] => { results := [.lit (.bool true)], args := [d1, d2, d3, d4, d5] }
  | _ => none }
def pickSoundRow : OpenClaim := { program := "ytfnphepiopncbaadoor", sum := "5f979a14d7540b0d7a8933d2d886aea2ad16b425f964ef283d857f8f8015a265", func := "augur/augurlaw10.PickSound", spec := "pickSound", unfollowed := true, recurses := true, named := ["augur/fix.terms", "augur/draw.rounds"], apart := false, laid := [("augur/fix.terms", laid_augur_fix_terms), ("augur/draw.rounds", laid_augur_draw_rounds)] }
def PickSoundSaid : Prop := pickSoundRow.holds Tryd.pinned (OpenSpec.ofChange pickSoundSpec)

/-- ITS FALSE NEIGHBOUR: 'it returns false'. Refute it at one input. -/
def pickSoundWrong : ChangeSpec := { name := "pickSound", fn := fun _ => fun
  | [d1, d2, d3, d4, d5] => { results := [.lit (.bool false)], args := [d1, d2, d3, d4, d5] }
  | _ => none }
def PickSoundWrongFalsely : Prop := pickSoundRow.holds Tryd.pinned (OpenSpec.ofChange pickSoundWrong)

/-- 'augurlaw10.PickDraws': WHATEVER THE INPUT: true; the input reads as it did. -/
def pickDrawsSpec : ChangeSpec := { name := "pickDraws", fn := fun _ => fun
  | [d1, d2, d3, d4, d5] => { results := [.lit (.bool true)], args := [d1, d2, d3, d4, d5] }
  | _ => none }
def pickDrawsRow : OpenClaim := { program := "ytfnphepiopncbaadoor", sum := "5f979a14d7540b0d7a8933d2d886aea2ad16b425f964ef283d857f8f8015a265", func := "augur/augurlaw10.PickDraws", spec := "pickDraws", unfollowed := true, recurses := true, named := ["augur/fix.terms", "augur/draw.rounds"], apart := false, laid := [("augur/fix.terms", laid_augur_fix_terms), ("augur/draw.rounds", laid_augur_draw_rounds)] }
def PickDrawsSaid : Prop := pickDrawsRow.holds Tryd.pinned (OpenSpec.ofChange pickDrawsSpec)

/-- ITS FALSE NEIGHBOUR: 'it returns false'. Refute it at one input. -/
def pickDrawsWrong : ChangeSpec := { name := "pickDraws", fn := fun _ => fun
  | [d1, d2, d3, d4, d5] => { results := [.lit (.bool false)], args := [d1, d2, d3, d4, d5] }
  | _ => none }
def PickDrawsWrongFalsely : Prop := pickDrawsRow.holds Tryd.pinned (OpenSpec.ofChange pickDrawsWrong)

/-- 'augurlaw10.PickGreedy': WHATEVER THE INPUT: true; the input reads as it did. -/
def pickGreedySpec : ChangeSpec := { name := "pickGreedy", fn := fun _ => fun
  | [d1, d2, d3, d4] => { results := [.lit (.bool true)], args := [d1, d2, d3, d4] }
  | _ => none }
def pickGreedyRow : OpenClaim := { program := "ytfnphepiopncbaadoor", sum := "5f979a14d7540b0d7a8933d2d886aea2ad16b425f964ef283d857f8f8015a265", func := "augur/augurlaw10.PickGreedy", spec := "pickGreedy", unfollowed := true, recurses := true, named := ["augur/fix.terms", "augur/draw.rounds"], apart := false, laid := [("augur/fix.terms", laid_augur_fix_terms), ("augur/draw.rounds", laid_augur_draw_rounds)] }
def PickGreedySaid : Prop := pickGreedyRow.holds Tryd.pinned (OpenSpec.ofChange pickGreedySpec)

/-- ITS FALSE NEIGHBOUR: 'it returns false'. Refute it at one input. -/
def pickGreedyWrong : ChangeSpec := { name := "pickGreedy", fn := fun _ => fun
  | [d1, d2, d3, d4] => { results := [.lit (.bool false)], args := [d1, d2, d3, d4] }
  | _ => none }
def PickGreedyWrongFalsely : Prop := pickGreedyRow.holds Tryd.pinned (OpenSpec.ofChange pickGreedyWrong)

/-- 'augurlaw10.PickMoves': WHATEVER THE INPUT: true; the input reads as it did. -/
def pickMovesSpec : ChangeSpec := { name := "pickMoves", fn := fun _ => fun
  | [d1, d2, d3, d4, d5] => { results := [.lit (.bool true)], args := [d1, d2, d3, d4, d5] }
  | _ => none }
def pickMovesRow : OpenClaim := { program := "ytfnphepiopncbaadoor", sum := "5f979a14d7540b0d7a8933d2d886aea2ad16b425f964ef283d857f8f8015a265", func := "augur/augurlaw10.PickMoves", spec := "pickMoves", unfollowed := true, recurses := true, named := ["augur/fix.terms", "augur/draw.rounds"], apart := false, laid := [("augur/fix.terms", laid_augur_fix_terms), ("augur/draw.rounds", laid_augur_draw_rounds)] }
def PickMovesSaid : Prop := pickMovesRow.holds Tryd.pinned (OpenSpec.ofChange pickMovesSpec)

/-- ITS FALSE NEIGHBOUR: 'it returns false'. Refute it at one input. -/
def pickMovesWrong : ChangeSpec := { name := "pickMoves", fn := fun _ => fun
  | [d1, d2, d3, d4, d5] => { results := [.lit (.bool false)], args := [d1, d2, d3, d4, d5] }
  | _ => none }
def PickMovesWrongFalsely : Prop := pickMovesRow.holds Tryd.pinned (OpenSpec.ofChange pickMovesWrong)

/-- 'augurlaw10.PickSeen': WHATEVER THE INPUT: true; the input reads as it did. -/
def pickSeenSpec : ChangeSpec := { name := "pickSeen", fn := fun _ => fun
  | [d1, d2, d3, d4] => { results := [.lit (.bool true)], args := [d1, d2, d3, d4] }
  | _ => none }
def pickSeenRow : OpenClaim := { program := "ytfnphepiopncbaadoor", sum := "5f979a14d7540b0d7a8933d2d886aea2ad16b425f964ef283d857f8f8015a265", func := "augur/augurlaw10.PickSeen", spec := "pickSeen", unfollowed := true, recurses := true, named := ["augur/fix.terms", "augur/draw.rounds"], apart := false, laid := [("augur/fix.terms", laid_augur_fix_terms), ("augur/draw.rounds", laid_augur_draw_rounds)] }
def PickSeenSaid : Prop := pickSeenRow.holds Tryd.pinned (OpenSpec.ofChange pickSeenSpec)

/-- ITS FALSE NEIGHBOUR: 'it returns false'. Refute it at one input. -/
def pickSeenWrong : ChangeSpec := { name := "pickSeen", fn := fun _ => fun
  | [d1, d2, d3, d4] => { results := [.lit (.bool false)], args := [d1, d2, d3, d4] }
  | _ => none }
def PickSeenWrongFalsely : Prop := pickSeenRow.holds Tryd.pinned (OpenSpec.ofChange pickSeenWrong)

/-- 'augurlaw10.PickNested': WHATEVER THE INPUT: true; the input reads as it did. -/
def pickNestedSpec : ChangeSpec := { name := "pickNested", fn := fun _ => fun
  | [d1, d2, d3, d4, d5, d6] => { results := [.lit (.bool true)], args := [d1, d2, d3, d4, d5, d6] }
  | _ => none }
def pickNestedRow : OpenClaim := { program := "ytfnphepiopncbaadoor", sum := "5f979a14d7540b0d7a8933d2d886aea2ad16b425f964ef283d857f8f8015a265", func := "augur/augurlaw10.PickNested", spec := "pickNested", unfollowed := true, recurses := true, named := ["augur/fix.terms", "augur/draw.rounds"], apart := false, laid := [("augur/fix.terms", laid_augur_fix_terms), ("augur/draw.rounds", laid_augur_draw_rounds)] }
def PickNestedSaid : Prop := pickNestedRow.holds Tryd.pinned (OpenSpec.ofChange pickNestedSpec)

/-- ITS FALSE NEIGHBOUR: 'it returns false'. Refute it at one input. -/
def pickNestedWrong : ChangeSpec := { name := "pickNested", fn := fun _ => fun
  | [d1, d2, d3, d4, d5, d6] => { results := [.lit (.bool false)], args := [d1, d2, d3, d4, d5, d6] }
  | _ => none }
def PickNestedWrongFalsely : Prop := pickNestedRow.holds Tryd.pinned (OpenSpec.ofChange pickNestedWrong)

/- THE SECOND FORM. 'bulk': how many values and letters a reading holds, each counted each time it is reached (what is shared counts as often as it is met; a slice's spare places count too). A statement '..UptoSaid' is the law's where the arguments, and the package variables that the reading takes, are together of bulk at most 1048576: NARROWER than '..Said'. Prove '..Said' where nothing that the law and all that it calls make is longer than what came in: it says more and counts as full. Else prove '..UptoSaid'. A law counts once. -/
mutual
def uptoBulk {H : Type} : DataW H → Nat
  | .lit (.string bytes) => bytes.length + 1
  | .lit _ => 1
  | .nil => 1
  | .ptr d => uptoBulk d + 1
  | .slice elems spare => uptoBulkAll elems + uptoBulkAll spare + 1
  | .agg parts => uptoBulkAll parts + 1
  | .iface _ d => uptoBulk d + 1
  | .map entries => uptoBulkEntries entries + 1
  | .held _ => 1
def uptoBulkAll {H : Type} : List (DataW H) → Nat
  | [] => 0
  | d :: r => uptoBulk d + uptoBulkAll r
def uptoBulkEntries {H : Type} : List (Lit × DataW H) → Nat
  | [] => 0
  | x :: r => uptoBulkEntry x + uptoBulkEntries r
def uptoBulkEntry {H : Type} : Lit × DataW H → Nat
  | (.string bytes, d) => bytes.length + uptoBulk d + 1
  | (_, d) => uptoBulk d + 1
 end
def uptoSmall : (H : Type) → List (DataW H) → Bool := fun _ ds => decide (uptoBulkAll ds ≤ 1048576)
def OpenSpec.upto (s : _root_.Go.ChangeSpec) : _root_.Go.OpenSpec := { _root_.Go.OpenSpec.ofChange s with cond := some uptoSmall }

/-- 'augurlaw10.PickChances', WHERE WHAT IT READS IS OF BULK AT MOST 1048576: true; the input reads as it did. -/
def pickChancesUptoRow : OpenClaim := { program := "ytfnphepiopncbaadoor", sum := "5f979a14d7540b0d7a8933d2d886aea2ad16b425f964ef283d857f8f8015a265", func := "augur/augurlaw10.PickChances", spec := "pickChances", unfollowed := true, recurses := true, named := ["augur/fix.terms", "augur/draw.rounds"], apart := false, laid := [("augur/fix.terms", laid_augur_fix_terms), ("augur/draw.rounds", laid_augur_draw_rounds)], narrowed := true }
def PickChancesUptoSaid : Prop := pickChancesUptoRow.holds Tryd.pinned (OpenSpec.upto pickChancesSpec)

/-- 'augurlaw10.PickChooses', WHERE WHAT IT READS IS OF BULK AT MOST 1048576: true; the input reads as it did. -/
def pickChoosesUptoRow : OpenClaim := { program := "ytfnphepiopncbaadoor", sum := "5f979a14d7540b0d7a8933d2d886aea2ad16b425f964ef283d857f8f8015a265", func := "augur/augurlaw10.PickChooses", spec := "pickChooses", unfollowed := true, recurses := true, named := ["augur/fix.terms", "augur/draw.rounds"], apart := false, laid := [("augur/fix.terms", laid_augur_fix_terms), ("augur/draw.rounds", laid_augur_draw_rounds)], narrowed := true }
def PickChoosesUptoSaid : Prop := pickChoosesUptoRow.holds Tryd.pinned (OpenSpec.upto pickChoosesSpec)

/-- 'augurlaw10.PickLists', WHERE WHAT IT READS IS OF BULK AT MOST 1048576: true; the input reads as it did. -/
def pickListsUptoRow : OpenClaim := { program := "ytfnphepiopncbaadoor", sum := "5f979a14d7540b0d7a8933d2d886aea2ad16b425f964ef283d857f8f8015a265", func := "augur/augurlaw10.PickLists", spec := "pickLists", unfollowed := true, recurses := true, named := ["augur/fix.terms", "augur/draw.rounds"], apart := false, laid := [("augur/fix.terms", laid_augur_fix_terms), ("augur/draw.rounds", laid_augur_draw_rounds)], narrowed := true }
def PickListsUptoSaid : Prop := pickListsUptoRow.holds Tryd.pinned (OpenSpec.upto pickListsSpec)

/-- 'augurlaw10.PickSound', WHERE WHAT IT READS IS OF BULK AT MOST 1048576: true; the input reads as it did. -/
def pickSoundUptoRow : OpenClaim := { program := "ytfnphepiopncbaadoor", sum := "5f979a14d7540b0d7a8933d2d886aea2ad16b425f964ef283d857f8f8015a265", func := "augur/augurlaw10.PickSound", spec := "pickSound", unfollowed := true, recurses := true, named := ["augur/fix.terms", "augur/draw.rounds"], apart := false, laid := [("augur/fix.terms", laid_augur_fix_terms), ("augur/draw.rounds", laid_augur_draw_rounds)], narrowed := true }
def PickSoundUptoSaid : Prop := pickSoundUptoRow.holds Tryd.pinned (OpenSpec.upto pickSoundSpec)

/-- 'augurlaw10.PickDraws', WHERE WHAT IT READS IS OF BULK AT MOST 1048576: true; the input reads as it did. -/
def pickDrawsUptoRow : OpenClaim := { program := "ytfnphepiopncbaadoor", sum := "5f979a14d7540b0d7a8933d2d886aea2ad16b425f964ef283d857f8f8015a265", func := "augur/augurlaw10.PickDraws", spec := "pickDraws", unfollowed := true, recurses := true, named := ["augur/fix.terms", "augur/draw.rounds"], apart := false, laid := [("augur/fix.terms", laid_augur_fix_terms), ("augur/draw.rounds", laid_augur_draw_rounds)], narrowed := true }
def PickDrawsUptoSaid : Prop := pickDrawsUptoRow.holds Tryd.pinned (OpenSpec.upto pickDrawsSpec)

/-- 'augurlaw10.PickGreedy', WHERE WHAT IT READS IS OF BULK AT MOST 1048576: true; the input reads as it did. -/
def pickGreedyUptoRow : OpenClaim := { program := "ytfnphepiopncbaadoor", sum := "5f979a14d7540b0d7a8933d2d886aea2ad16b425f964ef283d857f8f8015a265", func := "augur/augurlaw10.PickGreedy", spec := "pickGreedy", unfollowed := true, recurses := true, named := ["augur/fix.terms", "augur/draw.rounds"], apart := false, laid := [("augur/fix.terms", laid_augur_fix_terms), ("augur/draw.rounds", laid_augur_draw_rounds)], narrowed := true }
def PickGreedyUptoSaid : Prop := pickGreedyUptoRow.holds Tryd.pinned (OpenSpec.upto pickGreedySpec)

/-- 'augurlaw10.PickMoves', WHERE WHAT IT READS IS OF BULK AT MOST 1048576: true; the input reads as it did. -/
def pickMovesUptoRow : OpenClaim := { program := "ytfnphepiopncbaadoor", sum := "5f979a14d7540b0d7a8933d2d886aea2ad16b425f964ef283d857f8f8015a265", func := "augur/augurlaw10.PickMoves", spec := "pickMoves", unfollowed := true, recurses := true, named := ["augur/fix.terms", "augur/draw.rounds"], apart := false, laid := [("augur/fix.terms", laid_augur_fix_terms), ("augur/draw.rounds", laid_augur_draw_rounds)], narrowed := true }
def PickMovesUptoSaid : Prop := pickMovesUptoRow.holds Tryd.pinned (OpenSpec.upto pickMovesSpec)

/-- 'augurlaw10.PickSeen', WHERE WHAT IT READS IS OF BULK AT MOST 1048576: true; the input reads as it did. -/
def pickSeenUptoRow : OpenClaim := { program := "ytfnphepiopncbaadoor", sum := "5f979a14d7540b0d7a8933d2d886aea2ad16b425f964ef283d857f8f8015a265", func := "augur/augurlaw10.PickSeen", spec := "pickSeen", unfollowed := true, recurses := true, named := ["augur/fix.terms", "augur/draw.rounds"], apart := false, laid := [("augur/fix.terms", laid_augur_fix_terms), ("augur/draw.rounds", laid_augur_draw_rounds)], narrowed := true }
def PickSeenUptoSaid : Prop := pickSeenUptoRow.holds Tryd.pinned (OpenSpec.upto pickSeenSpec)

/-- 'augurlaw10.PickNested', WHERE WHAT IT READS IS OF BULK AT MOST 1048576: true; the input reads as it did. -/
def pickNestedUptoRow : OpenClaim := { program := "ytfnphepiopncbaadoor", sum := "5f979a14d7540b0d7a8933d2d886aea2ad16b425f964ef283d857f8f8015a265", func := "augur/augurlaw10.PickNested", spec := "pickNested", unfollowed := true, recurses := true, named := ["augur/fix.terms", "augur/draw.rounds"], apart := false, laid := [("augur/fix.terms", laid_augur_fix_terms), ("augur/draw.rounds", laid_augur_draw_rounds)], narrowed := true }
def PickNestedUptoSaid : Prop := pickNestedUptoRow.holds Tryd.pinned (OpenSpec.upto pickNestedSpec)

end Rows
end Go.Proofs.YtfnphepiopncbaaDoor
