/-
  DERIVED. GIVEN WITH THE SEED: THE CARDS: each row of YtlbndchfmdogeaaGreatDoorRows.lean that lists a variable, with what it lists TIED to the program's text (the seventh form; the later family's looks); each row that meets fmt, with fmt's text TOLD by the authors' own Lean function (tested against real Go, not proved from fmt's source: count such statements apart). THE CARD IS WHAT COUNTS. Prove the row's statement (the work); the ties are given (YtlbndchfmdogeaaGreatDoorTie.lean); close each card by the builder's one call (the guide's Derived/Test/ToyasCard.lean, 'card_holds'). Laid BY PROGRAM, IN A SANDBOX (cutbox-door.mjs). By AI agents, Wed Nov 11 2026. No macro, syntax, notation, axiom, sorry.
-/
import Derived.Test.YtlbndchfmdogeaaGreatDoorRows
import GoSem.ClaimSeven
namespace Go.Proofs.YtlbndchfmdogeaaGreatDoor
namespace Rows

/-- THE TIED CARD OF 'etchhouselaw2.NetlistMatchesMatchSpec'. -/
def netlistMatchesMatchSpecCard : Claim7 := { stood := { row := netlistMatchesMatchSpecRow, standIns := [], harness := (true, "b4ef072678df2d0d09cedb9b56149ac106f794744daaa7489c318779bc072706"), looks := false }, kinds := [], alts := [], laidByText := true, laidKinds := [.data, .pinned], laidTests := true, laidLooks := .later }
def NetlistMatchesMatchSpecCardSaid : Prop := Claim7.holds Tryz.pinned (.plain (OpenSpec.ofChange netlistMatchesMatchSpecSpec)) netlistMatchesMatchSpecCard

/-- THE TIED CARD OF 'etchhouselaw2.NetlistJoinedMatchesSpec'. -/
def netlistJoinedMatchesSpecCard : Claim7 := { stood := { row := netlistJoinedMatchesSpecRow, standIns := [], harness := (true, "b4ef072678df2d0d09cedb9b56149ac106f794744daaa7489c318779bc072706"), looks := false }, kinds := [], alts := [], laidByText := true, laidKinds := [.data, .pinned], laidTests := true, laidLooks := .later }
def NetlistJoinedMatchesSpecCardSaid : Prop := Claim7.holds Tryz.pinned (.plain (OpenSpec.ofChange netlistJoinedMatchesSpecSpec)) netlistJoinedMatchesSpecCard

/-- THE SECOND FORM's CARD OF 'etchhouselaw2.NetlistMatchesMatchSpec'. -/
def netlistMatchesMatchSpecUptoCard : Claim7 := { stood := { row := netlistMatchesMatchSpecUptoRow, standIns := [], harness := (true, "b4ef072678df2d0d09cedb9b56149ac106f794744daaa7489c318779bc072706"), looks := false }, kinds := [], alts := [], laidByText := true, laidKinds := [.data, .pinned], laidTests := true, laidLooks := .later }
def NetlistMatchesMatchSpecUptoCardSaid : Prop := Claim7.holds Tryz.pinned (.plain (OpenSpec.upto netlistMatchesMatchSpecSpec)) netlistMatchesMatchSpecUptoCard

/-- THE SECOND FORM's CARD OF 'etchhouselaw2.NetlistJoinedMatchesSpec'. -/
def netlistJoinedMatchesSpecUptoCard : Claim7 := { stood := { row := netlistJoinedMatchesSpecUptoRow, standIns := [], harness := (true, "b4ef072678df2d0d09cedb9b56149ac106f794744daaa7489c318779bc072706"), looks := false }, kinds := [], alts := [], laidByText := true, laidKinds := [.data, .pinned], laidTests := true, laidLooks := .later }
def NetlistJoinedMatchesSpecUptoCardSaid : Prop := Claim7.holds Tryz.pinned (.plain (OpenSpec.upto netlistJoinedMatchesSpecSpec)) netlistJoinedMatchesSpecUptoCard
end Rows
end Go.Proofs.YtlbndchfmdogeaaGreatDoor
