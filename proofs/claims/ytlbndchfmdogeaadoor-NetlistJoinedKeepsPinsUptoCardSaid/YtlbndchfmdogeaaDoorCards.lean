/-
  DERIVED. GIVEN WITH THE SEED: THE CARDS: each row of YtlbndchfmdogeaaDoorRows.lean that lists a variable, with what it lists TIED to the program's text (the seventh form; the later family's looks); each row that meets fmt, with fmt's text TOLD by the authors' own Lean function (tested against real Go, not proved from fmt's source: count such statements apart). THE CARD IS WHAT COUNTS. Prove the row's statement (the work); the ties are given (YtlbndchfmdogeaaDoorTie.lean); close each card by the builder's one call (the guide's Derived/Test/ToyasCard.lean, 'card_holds'). Laid BY PROGRAM, IN A SANDBOX (cutbox-door.mjs). By AI agents, Wed Nov 11 2026. No macro, syntax, notation, axiom, sorry.
-/
import Derived.Test.YtlbndchfmdogeaaDoorRows
import GoSem.ClaimSeven
namespace Go.Proofs.YtlbndchfmdogeaaDoor
namespace Rows

/-- THE TIED CARD OF 'etchhouselaw2.NetlistListsMatchSpec'. -/
def netlistListsMatchSpecCard : Claim7 := { stood := { row := netlistListsMatchSpecRow, standIns := [], harness := (true, "24dbe675ca87f278afe6485dc55346d464afc34efd05ab516443024f569d4ad6"), looks := false }, kinds := [], alts := [], laidByText := true, laidKinds := [.data, .pinned], laidTests := true, laidLooks := .later }
def NetlistListsMatchSpecCardSaid : Prop := Claim7.holds Tryd.pinned (.plain (OpenSpec.ofChange netlistListsMatchSpecSpec)) netlistListsMatchSpecCard

/-- THE TIED CARD OF 'etchhouselaw2.NetlistFindingsMatchSpec'. -/
def netlistFindingsMatchSpecCard : Claim7 := { stood := { row := netlistFindingsMatchSpecRow, standIns := [], harness := (true, "24dbe675ca87f278afe6485dc55346d464afc34efd05ab516443024f569d4ad6"), looks := false }, kinds := [], alts := [], laidByText := true, laidKinds := [.data, .pinned], laidTests := true, laidLooks := .later }
def NetlistFindingsMatchSpecCardSaid : Prop := Claim7.holds Tryd.pinned (.plain (OpenSpec.ofChange netlistFindingsMatchSpecSpec)) netlistFindingsMatchSpecCard

/-- THE TIED CARD OF 'etchhouselaw2.NetlistReadsMatchSpec'. -/
def netlistReadsMatchSpecCard : Claim7 := { stood := { row := netlistReadsMatchSpecRow, standIns := [], harness := (true, "24dbe675ca87f278afe6485dc55346d464afc34efd05ab516443024f569d4ad6"), looks := false }, kinds := [], alts := [], laidByText := true, laidKinds := [.data, .pinned], laidTests := true, laidLooks := .later }
def NetlistReadsMatchSpecCardSaid : Prop := Claim7.holds Tryd.pinned (.plain (OpenSpec.ofChange netlistReadsMatchSpecSpec)) netlistReadsMatchSpecCard

/-- THE TIED CARD OF 'etchhouselaw2.NetlistChangesMatchSpec'. -/
def netlistChangesMatchSpecCard : Claim7 := { stood := { row := netlistChangesMatchSpecRow, standIns := [], harness := (true, "24dbe675ca87f278afe6485dc55346d464afc34efd05ab516443024f569d4ad6"), looks := false }, kinds := [], alts := [], laidByText := true, laidKinds := [.data, .pinned], laidTests := true, laidLooks := .later }
def NetlistChangesMatchSpecCardSaid : Prop := Claim7.holds Tryd.pinned (.plain (OpenSpec.ofChange netlistChangesMatchSpecSpec)) netlistChangesMatchSpecCard

/-- THE TIED CARD OF 'etchhouselaw2.NetlistWithoutTwice'. -/
def netlistWithoutTwiceCard : Claim7 := { stood := { row := netlistWithoutTwiceRow, standIns := [], harness := (true, "24dbe675ca87f278afe6485dc55346d464afc34efd05ab516443024f569d4ad6"), looks := false }, kinds := [], alts := [], laidByText := true, laidKinds := [.data, .pinned], laidTests := true, laidLooks := .later }
def NetlistWithoutTwiceCardSaid : Prop := Claim7.holds Tryd.pinned (.plain (OpenSpec.ofChange netlistWithoutTwiceSpec)) netlistWithoutTwiceCard

/-- THE TIED CARD OF 'etchhouselaw2.NetlistWithoutMatchesSpec'. -/
def netlistWithoutMatchesSpecCard : Claim7 := { stood := { row := netlistWithoutMatchesSpecRow, standIns := [], harness := (true, "24dbe675ca87f278afe6485dc55346d464afc34efd05ab516443024f569d4ad6"), looks := false }, kinds := [], alts := [], laidByText := true, laidKinds := [.data, .pinned], laidTests := true, laidLooks := .later }
def NetlistWithoutMatchesSpecCardSaid : Prop := Claim7.holds Tryd.pinned (.plain (OpenSpec.ofChange netlistWithoutMatchesSpecSpec)) netlistWithoutMatchesSpecCard

/-- THE TIED CARD OF 'etchhouselaw2.NetlistTextsMatchSpec'. -/
def netlistTextsMatchSpecCard : Claim7 := { stood := { row := netlistTextsMatchSpecRow, standIns := [], harness := (true, "24dbe675ca87f278afe6485dc55346d464afc34efd05ab516443024f569d4ad6"), looks := false }, kinds := [], alts := [], laidByText := true, laidKinds := [.data, .pinned], laidTests := true, laidLooks := .later }
def NetlistTextsMatchSpecCardSaid : Prop := Claim7.holds Tryd.pinned (.plain (OpenSpec.ofChange netlistTextsMatchSpecSpec)) netlistTextsMatchSpecCard

/-- THE TIED CARD OF 'etchhouselaw2.NetlistIslandsMatchSpec'. -/
def netlistIslandsMatchSpecCard : Claim7 := { stood := { row := netlistIslandsMatchSpecRow, standIns := [], harness := (true, "24dbe675ca87f278afe6485dc55346d464afc34efd05ab516443024f569d4ad6"), looks := false }, kinds := [], alts := [], laidByText := true, laidKinds := [.data, .pinned], laidTests := true, laidLooks := .later }
def NetlistIslandsMatchSpecCardSaid : Prop := Claim7.holds Tryd.pinned (.plain (OpenSpec.ofChange netlistIslandsMatchSpecSpec)) netlistIslandsMatchSpecCard

/-- THE TIED CARD OF 'etchhouselaw2.NetlistIslandsHaveAll'. -/
def netlistIslandsHaveAllCard : Claim7 := { stood := { row := netlistIslandsHaveAllRow, standIns := [], harness := (true, "24dbe675ca87f278afe6485dc55346d464afc34efd05ab516443024f569d4ad6"), looks := false }, kinds := [], alts := [], laidByText := true, laidKinds := [.data, .pinned], laidTests := true, laidLooks := .later }
def NetlistIslandsHaveAllCardSaid : Prop := Claim7.holds Tryd.pinned (.plain (OpenSpec.ofChange netlistIslandsHaveAllSpec)) netlistIslandsHaveAllCard

/-- THE TIED CARD OF 'etchhouselaw2.NetlistJoinedKeepsPins'. -/
def netlistJoinedKeepsPinsCard : Claim7 := { stood := { row := netlistJoinedKeepsPinsRow, standIns := [], harness := (true, "24dbe675ca87f278afe6485dc55346d464afc34efd05ab516443024f569d4ad6"), looks := false }, kinds := [], alts := [], laidByText := true, laidKinds := [.data, .pinned], laidTests := true, laidLooks := .later }
def NetlistJoinedKeepsPinsCardSaid : Prop := Claim7.holds Tryd.pinned (.plain (OpenSpec.ofChange netlistJoinedKeepsPinsSpec)) netlistJoinedKeepsPinsCard

/-- THE SECOND FORM's CARD OF 'etchhouselaw2.NetlistListsMatchSpec'. -/
def netlistListsMatchSpecUptoCard : Claim7 := { stood := { row := netlistListsMatchSpecUptoRow, standIns := [], harness := (true, "24dbe675ca87f278afe6485dc55346d464afc34efd05ab516443024f569d4ad6"), looks := false }, kinds := [], alts := [], laidByText := true, laidKinds := [.data, .pinned], laidTests := true, laidLooks := .later }
def NetlistListsMatchSpecUptoCardSaid : Prop := Claim7.holds Tryd.pinned (.plain (OpenSpec.upto netlistListsMatchSpecSpec)) netlistListsMatchSpecUptoCard

/-- THE SECOND FORM's CARD OF 'etchhouselaw2.NetlistFindingsMatchSpec'. -/
def netlistFindingsMatchSpecUptoCard : Claim7 := { stood := { row := netlistFindingsMatchSpecUptoRow, standIns := [], harness := (true, "24dbe675ca87f278afe6485dc55346d464afc34efd05ab516443024f569d4ad6"), looks := false }, kinds := [], alts := [], laidByText := true, laidKinds := [.data, .pinned], laidTests := true, laidLooks := .later }
def NetlistFindingsMatchSpecUptoCardSaid : Prop := Claim7.holds Tryd.pinned (.plain (OpenSpec.upto netlistFindingsMatchSpecSpec)) netlistFindingsMatchSpecUptoCard

/-- THE SECOND FORM's CARD OF 'etchhouselaw2.NetlistReadsMatchSpec'. -/
def netlistReadsMatchSpecUptoCard : Claim7 := { stood := { row := netlistReadsMatchSpecUptoRow, standIns := [], harness := (true, "24dbe675ca87f278afe6485dc55346d464afc34efd05ab516443024f569d4ad6"), looks := false }, kinds := [], alts := [], laidByText := true, laidKinds := [.data, .pinned], laidTests := true, laidLooks := .later }
def NetlistReadsMatchSpecUptoCardSaid : Prop := Claim7.holds Tryd.pinned (.plain (OpenSpec.upto netlistReadsMatchSpecSpec)) netlistReadsMatchSpecUptoCard

/-- THE SECOND FORM's CARD OF 'etchhouselaw2.NetlistChangesMatchSpec'. -/
def netlistChangesMatchSpecUptoCard : Claim7 := { stood := { row := netlistChangesMatchSpecUptoRow, standIns := [], harness := (true, "24dbe675ca87f278afe6485dc55346d464afc34efd05ab516443024f569d4ad6"), looks := false }, kinds := [], alts := [], laidByText := true, laidKinds := [.data, .pinned], laidTests := true, laidLooks := .later }
def NetlistChangesMatchSpecUptoCardSaid : Prop := Claim7.holds Tryd.pinned (.plain (OpenSpec.upto netlistChangesMatchSpecSpec)) netlistChangesMatchSpecUptoCard

/-- THE SECOND FORM's CARD OF 'etchhouselaw2.NetlistWithoutTwice'. -/
def netlistWithoutTwiceUptoCard : Claim7 := { stood := { row := netlistWithoutTwiceUptoRow, standIns := [], harness := (true, "24dbe675ca87f278afe6485dc55346d464afc34efd05ab516443024f569d4ad6"), looks := false }, kinds := [], alts := [], laidByText := true, laidKinds := [.data, .pinned], laidTests := true, laidLooks := .later }
def NetlistWithoutTwiceUptoCardSaid : Prop := Claim7.holds Tryd.pinned (.plain (OpenSpec.upto netlistWithoutTwiceSpec)) netlistWithoutTwiceUptoCard

/-- THE SECOND FORM's CARD OF 'etchhouselaw2.NetlistWithoutMatchesSpec'. -/
def netlistWithoutMatchesSpecUptoCard : Claim7 := { stood := { row := netlistWithoutMatchesSpecUptoRow, standIns := [], harness := (true, "24dbe675ca87f278afe6485dc55346d464afc34efd05ab516443024f569d4ad6"), looks := false }, kinds := [], alts := [], laidByText := true, laidKinds := [.data, .pinned], laidTests := true, laidLooks := .later }
def NetlistWithoutMatchesSpecUptoCardSaid : Prop := Claim7.holds Tryd.pinned (.plain (OpenSpec.upto netlistWithoutMatchesSpecSpec)) netlistWithoutMatchesSpecUptoCard

/-- THE SECOND FORM's CARD OF 'etchhouselaw2.NetlistTextsMatchSpec'. -/
def netlistTextsMatchSpecUptoCard : Claim7 := { stood := { row := netlistTextsMatchSpecUptoRow, standIns := [], harness := (true, "24dbe675ca87f278afe6485dc55346d464afc34efd05ab516443024f569d4ad6"), looks := false }, kinds := [], alts := [], laidByText := true, laidKinds := [.data, .pinned], laidTests := true, laidLooks := .later }
def NetlistTextsMatchSpecUptoCardSaid : Prop := Claim7.holds Tryd.pinned (.plain (OpenSpec.upto netlistTextsMatchSpecSpec)) netlistTextsMatchSpecUptoCard

/-- THE SECOND FORM's CARD OF 'etchhouselaw2.NetlistIslandsMatchSpec'. -/
def netlistIslandsMatchSpecUptoCard : Claim7 := { stood := { row := netlistIslandsMatchSpecUptoRow, standIns := [], harness := (true, "24dbe675ca87f278afe6485dc55346d464afc34efd05ab516443024f569d4ad6"), looks := false }, kinds := [], alts := [], laidByText := true, laidKinds := [.data, .pinned], laidTests := true, laidLooks := .later }
def NetlistIslandsMatchSpecUptoCardSaid : Prop := Claim7.holds Tryd.pinned (.plain (OpenSpec.upto netlistIslandsMatchSpecSpec)) netlistIslandsMatchSpecUptoCard

/-- THE SECOND FORM's CARD OF 'etchhouselaw2.NetlistIslandsHaveAll'. -/
def netlistIslandsHaveAllUptoCard : Claim7 := { stood := { row := netlistIslandsHaveAllUptoRow, standIns := [], harness := (true, "24dbe675ca87f278afe6485dc55346d464afc34efd05ab516443024f569d4ad6"), looks := false }, kinds := [], alts := [], laidByText := true, laidKinds := [.data, .pinned], laidTests := true, laidLooks := .later }
def NetlistIslandsHaveAllUptoCardSaid : Prop := Claim7.holds Tryd.pinned (.plain (OpenSpec.upto netlistIslandsHaveAllSpec)) netlistIslandsHaveAllUptoCard

/-- THE SECOND FORM's CARD OF 'etchhouselaw2.NetlistJoinedKeepsPins'. -/
def netlistJoinedKeepsPinsUptoCard : Claim7 := { stood := { row := netlistJoinedKeepsPinsUptoRow, standIns := [], harness := (true, "24dbe675ca87f278afe6485dc55346d464afc34efd05ab516443024f569d4ad6"), looks := false }, kinds := [], alts := [], laidByText := true, laidKinds := [.data, .pinned], laidTests := true, laidLooks := .later }
def NetlistJoinedKeepsPinsUptoCardSaid : Prop := Claim7.holds Tryd.pinned (.plain (OpenSpec.upto netlistJoinedKeepsPinsSpec)) netlistJoinedKeepsPinsUptoCard
end Rows
end Go.Proofs.YtlbndchfmdogeaaDoor
