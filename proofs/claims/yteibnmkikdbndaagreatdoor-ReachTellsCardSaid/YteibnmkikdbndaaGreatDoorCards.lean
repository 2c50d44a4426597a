/-
  DERIVED. GIVEN WITH THE SEED: THE CARDS: each row of YteibnmkikdbndaaGreatDoorRows.lean that lists a variable, with what it lists TIED to the program's text (the seventh form; the later family's looks); each row that meets fmt, with fmt's text TOLD by the authors' own Lean function (tested against real Go, not proved from fmt's source: count such statements apart). THE CARD IS WHAT COUNTS. Prove the row's statement (the work); the ties are given (YteibnmkikdbndaaGreatDoorTie.lean); close each card by the builder's one call (the guide's Derived/Test/ToyasCard.lean, 'card_holds'). Laid BY PROGRAM, IN A SANDBOX (cutbox-door.mjs). By AI agents, Wed Nov 11 2026. No macro, syntax, notation, axiom, sorry.
-/
import Derived.Test.YteibnmkikdbndaaGreatDoorRows
import GoSem.ClaimSeven
namespace Go.Proofs.YteibnmkikdbndaaGreatDoor
namespace Rows

/-- THE TIED CARD OF 'kinescopelaw25.ReachTells'. -/
def reachTellsCard : Claim7 := { stood := { row := reachTellsRow, standIns := [], harness := (true, "731f5c15966238d3b83622af6359034306a5895bb1e1577f52779abf6d42bbbd"), looks := true }, kinds := [], alts := [], laidByText := true, laidKinds := [.data, .data, .data], laidTests := true, laidLooks := .later }
def ReachTellsCardSaid : Prop := Claim7.holds Tryz.pinned (.plain (OpenSpec.ofChange reachTellsSpec)) reachTellsCard

/-- THE TIED CARD OF 'kinescopelaw25.ReachDoes'. -/
def reachDoesCard : Claim7 := { stood := { row := reachDoesRow, standIns := [], harness := (true, "731f5c15966238d3b83622af6359034306a5895bb1e1577f52779abf6d42bbbd"), looks := true }, kinds := [], alts := [], laidByText := true, laidKinds := [.data, .data, .data], laidTests := true, laidLooks := .later }
def ReachDoesCardSaid : Prop := Claim7.holds Tryz.pinned (.plain (OpenSpec.ofChange reachDoesSpec)) reachDoesCard

/-- THE TIED CARD OF 'kinescopelaw25.ReachPairs'. -/
def reachPairsCard : Claim7 := { stood := { row := reachPairsRow, standIns := [], harness := (true, "731f5c15966238d3b83622af6359034306a5895bb1e1577f52779abf6d42bbbd"), looks := true }, kinds := [], alts := [], laidByText := true, laidKinds := [.data, .data, .data], laidTests := true, laidLooks := .later }
def ReachPairsCardSaid : Prop := Claim7.holds Tryz.pinned (.plain (OpenSpec.ofChange reachPairsSpec)) reachPairsCard

/-- THE SECOND FORM's CARD OF 'kinescopelaw25.ReachTells'. -/
def reachTellsUptoCard : Claim7 := { stood := { row := reachTellsUptoRow, standIns := [], harness := (true, "731f5c15966238d3b83622af6359034306a5895bb1e1577f52779abf6d42bbbd"), looks := true }, kinds := [], alts := [], laidByText := true, laidKinds := [.data, .data, .data], laidTests := true, laidLooks := .later }
def ReachTellsUptoCardSaid : Prop := Claim7.holds Tryz.pinned (.plain (OpenSpec.upto reachTellsSpec)) reachTellsUptoCard

/-- THE SECOND FORM's CARD OF 'kinescopelaw25.ReachDoes'. -/
def reachDoesUptoCard : Claim7 := { stood := { row := reachDoesUptoRow, standIns := [], harness := (true, "731f5c15966238d3b83622af6359034306a5895bb1e1577f52779abf6d42bbbd"), looks := true }, kinds := [], alts := [], laidByText := true, laidKinds := [.data, .data, .data], laidTests := true, laidLooks := .later }
def ReachDoesUptoCardSaid : Prop := Claim7.holds Tryz.pinned (.plain (OpenSpec.upto reachDoesSpec)) reachDoesUptoCard

/-- THE SECOND FORM's CARD OF 'kinescopelaw25.ReachPairs'. -/
def reachPairsUptoCard : Claim7 := { stood := { row := reachPairsUptoRow, standIns := [], harness := (true, "731f5c15966238d3b83622af6359034306a5895bb1e1577f52779abf6d42bbbd"), looks := true }, kinds := [], alts := [], laidByText := true, laidKinds := [.data, .data, .data], laidTests := true, laidLooks := .later }
def ReachPairsUptoCardSaid : Prop := Claim7.holds Tryz.pinned (.plain (OpenSpec.upto reachPairsSpec)) reachPairsUptoCard
end Rows
end Go.Proofs.YteibnmkikdbndaaGreatDoor
