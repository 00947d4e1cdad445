/-
  DERIVED. GIVEN WITH THE SEED: THE CARDS: each row of YtfnphepiopncbaaDoorRows.lean that lists a variable, with what it lists TIED to the program's text (the seventh form; the later family's looks); each row that meets fmt, with fmt's text TOLD by the authors' own Lean function (tested against real Go, not proved from fmt's source: count such statements apart). THE CARD IS WHAT COUNTS. Prove the row's statement (the work); the ties are given (YtfnphepiopncbaaDoorTie.lean); close each card by the builder's one call (the guide's Derived/Test/ToyasCard.lean, 'card_holds'). Laid BY PROGRAM, IN A SANDBOX (cutbox-door.mjs). By AI agents, Wed Nov 11 2026. No macro, syntax, notation, axiom, sorry.
-/
import Derived.Test.YtfnphepiopncbaaDoorRows
import GoSem.ClaimSeven
namespace Go.Proofs.YtfnphepiopncbaaDoor
namespace Rows

/-- THE TIED CARD OF 'augurlaw10.PickChances'. -/
def pickChancesCard : Claim7 := { stood := { row := pickChancesRow, standIns := [], harness := (true, "bf57aa50c31370abc069e099c0fa5596f91efc5e3b70d0385c58eebef0901dba"), looks := false }, kinds := [], alts := [], laidByText := true, laidKinds := [.data, .data], laidTests := true, laidLooks := .later }
def PickChancesCardSaid : Prop := Claim7.holds Tryd.pinned (.plain (OpenSpec.ofChange pickChancesSpec)) pickChancesCard

/-- THE TIED CARD OF 'augurlaw10.PickChooses'. -/
def pickChoosesCard : Claim7 := { stood := { row := pickChoosesRow, standIns := [], harness := (true, "bf57aa50c31370abc069e099c0fa5596f91efc5e3b70d0385c58eebef0901dba"), looks := false }, kinds := [], alts := [], laidByText := true, laidKinds := [.data, .data], laidTests := true, laidLooks := .later }
def PickChoosesCardSaid : Prop := Claim7.holds Tryd.pinned (.plain (OpenSpec.ofChange pickChoosesSpec)) pickChoosesCard

/-- THE TIED CARD OF 'augurlaw10.PickLists'. -/
def pickListsCard : Claim7 := { stood := { row := pickListsRow, standIns := [], harness := (true, "bf57aa50c31370abc069e099c0fa5596f91efc5e3b70d0385c58eebef0901dba"), looks := false }, kinds := [], alts := [], laidByText := true, laidKinds := [.data, .data], laidTests := true, laidLooks := .later }
def PickListsCardSaid : Prop := Claim7.holds Tryd.pinned (.plain (OpenSpec.ofChange pickListsSpec)) pickListsCard

/-- THE TIED CARD OF 'augurlaw10.PickSound'. -/
def pickSoundCard : Claim7 := { stood := { row := pickSoundRow, standIns := [], harness := (true, "bf57aa50c31370abc069e099c0fa5596f91efc5e3b70d0385c58eebef0901dba"), looks := false }, kinds := [], alts := [], laidByText := true, laidKinds := [.data, .data], laidTests := true, laidLooks := .later }
def PickSoundCardSaid : Prop := Claim7.holds Tryd.pinned (.plain (OpenSpec.ofChange pickSoundSpec)) pickSoundCard

/-- THE TIED CARD OF 'augurlaw10.PickDraws'. -/
def pickDrawsCard : Claim7 := { stood := { row := pickDrawsRow, standIns := [], harness := (true, "bf57aa50c31370abc069e099c0fa5596f91efc5e3b70d0385c58eebef0901dba"), looks := false }, kinds := [], alts := [], laidByText := true, laidKinds := [.data, .data], laidTests := true, laidLooks := .later }
def PickDrawsCardSaid : Prop := Claim7.holds Tryd.pinned (.plain (OpenSpec.ofChange pickDrawsSpec)) pickDrawsCard

/-- THE TIED CARD OF 'augurlaw10.PickGreedy'. -/
def pickGreedyCard : Claim7 := { stood := { row := pickGreedyRow, standIns := [], harness := (true, "bf57aa50c31370abc069e099c0fa5596f91efc5e3b70d0385c58eebef0901dba"), looks := false }, kinds := [], alts := [], laidByText := true, laidKinds := [.data, .data], laidTests := true, laidLooks := .later }
def PickGreedyCardSaid : Prop := Claim7.holds Tryd.pinned (.plain (OpenSpec.ofChange pickGreedySpec)) pickGreedyCard

/-- THE TIED CARD OF 'augurlaw10.PickMoves'. -/
def pickMovesCard : Claim7 := { stood := { row := pickMovesRow, standIns := [], harness := (true, "bf57aa50c31370abc069e099c0fa5596f91efc5e3b70d0385c58eebef0901dba"), looks := false }, kinds := [], alts := [], laidByText := true, laidKinds := [.data, .data], laidTests := true, laidLooks := .later }
def PickMovesCardSaid : Prop := Claim7.holds Tryd.pinned (.plain (OpenSpec.ofChange pickMovesSpec)) pickMovesCard

/-- THE TIED CARD OF 'augurlaw10.PickSeen'. -/
def pickSeenCard : Claim7 := { stood := { row := pickSeenRow, standIns := [], harness := (true, "bf57aa50c31370abc069e099c0fa5596f91efc5e3b70d0385c58eebef0901dba"), looks := false }, kinds := [], alts := [], laidByText := true, laidKinds := [.data, .data], laidTests := true, laidLooks := .later }
def PickSeenCardSaid : Prop := Claim7.holds Tryd.pinned (.plain (OpenSpec.ofChange pickSeenSpec)) pickSeenCard

/-- THE TIED CARD OF 'augurlaw10.PickNested'. -/
def pickNestedCard : Claim7 := { stood := { row := pickNestedRow, standIns := [], harness := (true, "bf57aa50c31370abc069e099c0fa5596f91efc5e3b70d0385c58eebef0901dba"), looks := false }, kinds := [], alts := [], laidByText := true, laidKinds := [.data, .data], laidTests := true, laidLooks := .later }
def PickNestedCardSaid : Prop := Claim7.holds Tryd.pinned (.plain (OpenSpec.ofChange pickNestedSpec)) pickNestedCard

/-- THE SECOND FORM's CARD OF 'augurlaw10.PickChances'. -/
def pickChancesUptoCard : Claim7 := { stood := { row := pickChancesUptoRow, standIns := [], harness := (true, "bf57aa50c31370abc069e099c0fa5596f91efc5e3b70d0385c58eebef0901dba"), looks := false }, kinds := [], alts := [], laidByText := true, laidKinds := [.data, .data], laidTests := true, laidLooks := .later }
def PickChancesUptoCardSaid : Prop := Claim7.holds Tryd.pinned (.plain (OpenSpec.upto pickChancesSpec)) pickChancesUptoCard

/-- THE SECOND FORM's CARD OF 'augurlaw10.PickChooses'. -/
def pickChoosesUptoCard : Claim7 := { stood := { row := pickChoosesUptoRow, standIns := [], harness := (true, "bf57aa50c31370abc069e099c0fa5596f91efc5e3b70d0385c58eebef0901dba"), looks := false }, kinds := [], alts := [], laidByText := true, laidKinds := [.data, .data], laidTests := true, laidLooks := .later }
def PickChoosesUptoCardSaid : Prop := Claim7.holds Tryd.pinned (.plain (OpenSpec.upto pickChoosesSpec)) pickChoosesUptoCard

/-- THE SECOND FORM's CARD OF 'augurlaw10.PickLists'. -/
def pickListsUptoCard : Claim7 := { stood := { row := pickListsUptoRow, standIns := [], harness := (true, "bf57aa50c31370abc069e099c0fa5596f91efc5e3b70d0385c58eebef0901dba"), looks := false }, kinds := [], alts := [], laidByText := true, laidKinds := [.data, .data], laidTests := true, laidLooks := .later }
def PickListsUptoCardSaid : Prop := Claim7.holds Tryd.pinned (.plain (OpenSpec.upto pickListsSpec)) pickListsUptoCard

/-- THE SECOND FORM's CARD OF 'augurlaw10.PickSound'. -/
def pickSoundUptoCard : Claim7 := { stood := { row := pickSoundUptoRow, standIns := [], harness := (true, "bf57aa50c31370abc069e099c0fa5596f91efc5e3b70d0385c58eebef0901dba"), looks := false }, kinds := [], alts := [], laidByText := true, laidKinds := [.data, .data], laidTests := true, laidLooks := .later }
def PickSoundUptoCardSaid : Prop := Claim7.holds Tryd.pinned (.plain (OpenSpec.upto pickSoundSpec)) pickSoundUptoCard

/-- THE SECOND FORM's CARD OF 'augurlaw10.PickDraws'. -/
def pickDrawsUptoCard : Claim7 := { stood := { row := pickDrawsUptoRow, standIns := [], harness := (true, "bf57aa50c31370abc069e099c0fa5596f91efc5e3b70d0385c58eebef0901dba"), looks := false }, kinds := [], alts := [], laidByText := true, laidKinds := [.data, .data], laidTests := true, laidLooks := .later }
def PickDrawsUptoCardSaid : Prop := Claim7.holds Tryd.pinned (.plain (OpenSpec.upto pickDrawsSpec)) pickDrawsUptoCard

/-- THE SECOND FORM's CARD OF 'augurlaw10.PickGreedy'. -/
def pickGreedyUptoCard : Claim7 := { stood := { row := pickGreedyUptoRow, standIns := [], harness := (true, "bf57aa50c31370abc069e099c0fa5596f91efc5e3b70d0385c58eebef0901dba"), looks := false }, kinds := [], alts := [], laidByText := true, laidKinds := [.data, .data], laidTests := true, laidLooks := .later }
def PickGreedyUptoCardSaid : Prop := Claim7.holds Tryd.pinned (.plain (OpenSpec.upto pickGreedySpec)) pickGreedyUptoCard

/-- THE SECOND FORM's CARD OF 'augurlaw10.PickMoves'. -/
def pickMovesUptoCard : Claim7 := { stood := { row := pickMovesUptoRow, standIns := [], harness := (true, "bf57aa50c31370abc069e099c0fa5596f91efc5e3b70d0385c58eebef0901dba"), looks := false }, kinds := [], alts := [], laidByText := true, laidKinds := [.data, .data], laidTests := true, laidLooks := .later }
def PickMovesUptoCardSaid : Prop := Claim7.holds Tryd.pinned (.plain (OpenSpec.upto pickMovesSpec)) pickMovesUptoCard

/-- THE SECOND FORM's CARD OF 'augurlaw10.PickSeen'. -/
def pickSeenUptoCard : Claim7 := { stood := { row := pickSeenUptoRow, standIns := [], harness := (true, "bf57aa50c31370abc069e099c0fa5596f91efc5e3b70d0385c58eebef0901dba"), looks := false }, kinds := [], alts := [], laidByText := true, laidKinds := [.data, .data], laidTests := true, laidLooks := .later }
def PickSeenUptoCardSaid : Prop := Claim7.holds Tryd.pinned (.plain (OpenSpec.upto pickSeenSpec)) pickSeenUptoCard

/-- THE SECOND FORM's CARD OF 'augurlaw10.PickNested'. -/
def pickNestedUptoCard : Claim7 := { stood := { row := pickNestedUptoRow, standIns := [], harness := (true, "bf57aa50c31370abc069e099c0fa5596f91efc5e3b70d0385c58eebef0901dba"), looks := false }, kinds := [], alts := [], laidByText := true, laidKinds := [.data, .data], laidTests := true, laidLooks := .later }
def PickNestedUptoCardSaid : Prop := Claim7.holds Tryd.pinned (.plain (OpenSpec.upto pickNestedSpec)) pickNestedUptoCard
end Rows
end Go.Proofs.YtfnphepiopncbaaDoor
