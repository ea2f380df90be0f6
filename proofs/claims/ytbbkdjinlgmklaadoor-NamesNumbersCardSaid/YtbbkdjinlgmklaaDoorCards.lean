/-
  DERIVED. GIVEN WITH THE SEED: THE CARDS: each row of YtbbkdjinlgmklaaDoorRows.lean that lists a variable, with what it lists TIED to the program's text (the seventh form; the later family's looks); each row that meets fmt, with fmt's text TOLD by the authors' own Lean function (tested against real Go, not proved from fmt's source: count such statements apart). THE CARD IS WHAT COUNTS. Prove the row's statement (the work); the ties are given (YtbbkdjinlgmklaaDoorTie.lean); close each card by the builder's one call (the guide's Derived/Test/ToyasCard.lean, 'card_holds'). Laid BY PROGRAM, IN A SANDBOX (cutbox-door.mjs). By AI agents, Wed Nov 11 2026. No macro, syntax, notation, axiom, sorry.
-/
import Derived.Test.YtbbkdjinlgmklaaDoorRows
import GoSem.ClaimSeven
namespace Go.Proofs.YtbbkdjinlgmklaaDoor
namespace Rows

/-- THE TIED CARD OF 'ledgerstonelaw21.NamesNumbers'. -/
def namesNumbersCard : Claim7 := { stood := { row := namesNumbersRow, standIns := [], harness := (true, "61bccb138f0ec6b78a6e40cbda52a90131ffd5959dcc580e87a488595beeb8a9"), looks := false }, kinds := [], alts := [], laidByText := true, laidKinds := [.data, .pinned], laidTests := true, laidLooks := .later }
def NamesNumbersCardSaid : Prop := Claim7.holds Tryd.pinned (.plain (OpenSpec.ofChange namesNumbersSpec)) namesNumbersCard

/-- THE TIED CARD OF 'ledgerstonelaw21.NamesTells'. -/
def namesTellsCard : Claim7 := { stood := { row := namesTellsRow, standIns := [], harness := (true, "61bccb138f0ec6b78a6e40cbda52a90131ffd5959dcc580e87a488595beeb8a9"), looks := false }, kinds := [], alts := [], laidByText := true, laidKinds := [.data, .pinned], laidTests := true, laidLooks := .later }
def NamesTellsCardSaid : Prop := Claim7.holds Tryd.pinned (.plain (OpenSpec.ofChange namesTellsSpec)) namesTellsCard

/-- THE TIED CARD OF 'ledgerstonelaw21.NamesBack'. -/
def namesBackCard : Claim7 := { stood := { row := namesBackRow, standIns := [], harness := (true, "61bccb138f0ec6b78a6e40cbda52a90131ffd5959dcc580e87a488595beeb8a9"), looks := false }, kinds := [], alts := [], laidByText := true, laidKinds := [.data, .pinned], laidTests := true, laidLooks := .later }
def NamesBackCardSaid : Prop := Claim7.holds Tryd.pinned (.plain (OpenSpec.ofChange namesBackSpec)) namesBackCard

/-- THE TIED CARD OF 'ledgerstonelaw21.NamesUp'. -/
def namesUpCard : Claim7 := { stood := { row := namesUpRow, standIns := [], harness := (true, "61bccb138f0ec6b78a6e40cbda52a90131ffd5959dcc580e87a488595beeb8a9"), looks := false }, kinds := [], alts := [], laidByText := true, laidKinds := [.data, .pinned], laidTests := true, laidLooks := .later }
def NamesUpCardSaid : Prop := Claim7.holds Tryd.pinned (.plain (OpenSpec.ofChange namesUpSpec)) namesUpCard

/-- THE SECOND FORM's CARD OF 'ledgerstonelaw21.NamesNumbers'. -/
def namesNumbersUptoCard : Claim7 := { stood := { row := namesNumbersUptoRow, standIns := [], harness := (true, "61bccb138f0ec6b78a6e40cbda52a90131ffd5959dcc580e87a488595beeb8a9"), looks := false }, kinds := [], alts := [], laidByText := true, laidKinds := [.data, .pinned], laidTests := true, laidLooks := .later }
def NamesNumbersUptoCardSaid : Prop := Claim7.holds Tryd.pinned (.plain (OpenSpec.upto namesNumbersSpec)) namesNumbersUptoCard

/-- THE SECOND FORM's CARD OF 'ledgerstonelaw21.NamesTells'. -/
def namesTellsUptoCard : Claim7 := { stood := { row := namesTellsUptoRow, standIns := [], harness := (true, "61bccb138f0ec6b78a6e40cbda52a90131ffd5959dcc580e87a488595beeb8a9"), looks := false }, kinds := [], alts := [], laidByText := true, laidKinds := [.data, .pinned], laidTests := true, laidLooks := .later }
def NamesTellsUptoCardSaid : Prop := Claim7.holds Tryd.pinned (.plain (OpenSpec.upto namesTellsSpec)) namesTellsUptoCard

/-- THE SECOND FORM's CARD OF 'ledgerstonelaw21.NamesBack'. -/
def namesBackUptoCard : Claim7 := { stood := { row := namesBackUptoRow, standIns := [], harness := (true, "61bccb138f0ec6b78a6e40cbda52a90131ffd5959dcc580e87a488595beeb8a9"), looks := false }, kinds := [], alts := [], laidByText := true, laidKinds := [.data, .pinned], laidTests := true, laidLooks := .later }
def NamesBackUptoCardSaid : Prop := Claim7.holds Tryd.pinned (.plain (OpenSpec.upto namesBackSpec)) namesBackUptoCard

/-- THE SECOND FORM's CARD OF 'ledgerstonelaw21.NamesUp'. -/
def namesUpUptoCard : Claim7 := { stood := { row := namesUpUptoRow, standIns := [], harness := (true, "61bccb138f0ec6b78a6e40cbda52a90131ffd5959dcc580e87a488595beeb8a9"), looks := false }, kinds := [], alts := [], laidByText := true, laidKinds := [.data, .pinned], laidTests := true, laidLooks := .later }
def NamesUpUptoCardSaid : Prop := Claim7.holds Tryd.pinned (.plain (OpenSpec.upto namesUpSpec)) namesUpUptoCard
end Rows
end Go.Proofs.YtbbkdjinlgmklaaDoor
