/-
  DERIVED. GIVEN WITH THE SEED: THE CARDS: each row of YtikhdbdbdldbaaaDoorRows.lean that lists a variable, with what it lists TIED to the program's text (the seventh form; the later family's looks); each row that meets fmt, with fmt's text TOLD by the authors' own Lean function (tested against real Go, not proved from fmt's source: count such statements apart). THE CARD IS WHAT COUNTS. Prove the row's statement (the work); the ties are given (YtikhdbdbdldbaaaDoorTie.lean); close each card by the builder's one call (the guide's Derived/Test/ToyasCard.lean, 'card_holds'). Laid BY PROGRAM, IN A SANDBOX (cutbox-door.mjs). By AI agents, Wed Nov 11 2026. No macro, syntax, notation, axiom, sorry.
-/
import Derived.Test.YtikhdbdbdldbaaaDoorRows
import GoSem.ClaimSeven
namespace Go.Proofs.YtikhdbdbdldbaaaDoor
namespace Rows

/-- THE TIED CARD OF 'dunnagelaw12.TarfmtPrints'. -/
def tarfmtPrintsCard : Claim7 := { stood := { row := tarfmtPrintsRow, standIns := [], harness := (true, "3d4d38f45836603fae35f717aa67f59a4f31016c345cee883b0f5b026b76b0e1"), looks := false }, kinds := [], alts := [], laidByText := true, laidKinds := [.data, .pinned], laidTests := true, laidLooks := .later }
def TarfmtPrintsCardSaid : Prop := Claim7.holds Tryd.pinned (.plain (OpenSpec.ofChange tarfmtPrintsSpec)) tarfmtPrintsCard

/-- THE TIED CARD OF 'dunnagelaw12.TarfmtBack'. -/
def tarfmtBackCard : Claim7 := { stood := { row := tarfmtBackRow, standIns := [], harness := (true, "3d4d38f45836603fae35f717aa67f59a4f31016c345cee883b0f5b026b76b0e1"), looks := false }, kinds := [], alts := [], laidByText := true, laidKinds := [.data, .pinned], laidTests := true, laidLooks := .later }
def TarfmtBackCardSaid : Prop := Claim7.holds Tryd.pinned (.plain (OpenSpec.ofChange tarfmtBackSpec)) tarfmtBackCard

/-- THE TIED CARD OF 'dunnagelaw12.TarfmtAgain'. -/
def tarfmtAgainCard : Claim7 := { stood := { row := tarfmtAgainRow, standIns := [], harness := (true, "3d4d38f45836603fae35f717aa67f59a4f31016c345cee883b0f5b026b76b0e1"), looks := false }, kinds := [], alts := [], laidByText := true, laidKinds := [.data, .pinned], laidTests := true, laidLooks := .later }
def TarfmtAgainCardSaid : Prop := Claim7.holds Tryd.pinned (.plain (OpenSpec.ofChange tarfmtAgainSpec)) tarfmtAgainCard

/-- THE TIED CARD OF 'dunnagelaw12.TarfmtTells'. -/
def tarfmtTellsCard : Claim7 := { stood := { row := tarfmtTellsRow, standIns := [], harness := (true, "3d4d38f45836603fae35f717aa67f59a4f31016c345cee883b0f5b026b76b0e1"), looks := false }, kinds := [], alts := [], laidByText := true, laidKinds := [.data, .pinned], laidTests := true, laidLooks := .later }
def TarfmtTellsCardSaid : Prop := Claim7.holds Tryd.pinned (.plain (OpenSpec.ofChange tarfmtTellsSpec)) tarfmtTellsCard

/-- THE TIED CARD OF 'dunnagelaw12.TarfmtCuts'. -/
def tarfmtCutsCard : Claim7 := { stood := { row := tarfmtCutsRow, standIns := [], harness := (true, "3d4d38f45836603fae35f717aa67f59a4f31016c345cee883b0f5b026b76b0e1"), looks := false }, kinds := [], alts := [], laidByText := true, laidKinds := [.data, .pinned], laidTests := true, laidLooks := .later }
def TarfmtCutsCardSaid : Prop := Claim7.holds Tryd.pinned (.plain (OpenSpec.ofChange tarfmtCutsSpec)) tarfmtCutsCard

/-- THE TIED CARD OF 'dunnagelaw12.TarfmtJoins'. -/
def tarfmtJoinsCard : Claim7 := { stood := { row := tarfmtJoinsRow, standIns := [], harness := (true, "3d4d38f45836603fae35f717aa67f59a4f31016c345cee883b0f5b026b76b0e1"), looks := false }, kinds := [], alts := [], laidByText := true, laidKinds := [.data, .pinned], laidTests := true, laidLooks := .later }
def TarfmtJoinsCardSaid : Prop := Claim7.holds Tryd.pinned (.plain (OpenSpec.ofChange tarfmtJoinsSpec)) tarfmtJoinsCard

/-- THE TIED CARD OF 'dunnagelaw12.TarfmtSums'. -/
def tarfmtSumsCard : Claim7 := { stood := { row := tarfmtSumsRow, standIns := [], harness := (true, "3d4d38f45836603fae35f717aa67f59a4f31016c345cee883b0f5b026b76b0e1"), looks := false }, kinds := [], alts := [], laidByText := true, laidKinds := [.data, .pinned], laidTests := true, laidLooks := .later }
def TarfmtSumsCardSaid : Prop := Claim7.holds Tryd.pinned (.plain (OpenSpec.ofChange tarfmtSumsSpec)) tarfmtSumsCard

/-- THE SECOND FORM's CARD OF 'dunnagelaw12.TarfmtPrints'. -/
def tarfmtPrintsUptoCard : Claim7 := { stood := { row := tarfmtPrintsUptoRow, standIns := [], harness := (true, "3d4d38f45836603fae35f717aa67f59a4f31016c345cee883b0f5b026b76b0e1"), looks := false }, kinds := [], alts := [], laidByText := true, laidKinds := [.data, .pinned], laidTests := true, laidLooks := .later }
def TarfmtPrintsUptoCardSaid : Prop := Claim7.holds Tryd.pinned (.plain (OpenSpec.upto tarfmtPrintsSpec)) tarfmtPrintsUptoCard

/-- THE SECOND FORM's CARD OF 'dunnagelaw12.TarfmtBack'. -/
def tarfmtBackUptoCard : Claim7 := { stood := { row := tarfmtBackUptoRow, standIns := [], harness := (true, "3d4d38f45836603fae35f717aa67f59a4f31016c345cee883b0f5b026b76b0e1"), looks := false }, kinds := [], alts := [], laidByText := true, laidKinds := [.data, .pinned], laidTests := true, laidLooks := .later }
def TarfmtBackUptoCardSaid : Prop := Claim7.holds Tryd.pinned (.plain (OpenSpec.upto tarfmtBackSpec)) tarfmtBackUptoCard

/-- THE SECOND FORM's CARD OF 'dunnagelaw12.TarfmtAgain'. -/
def tarfmtAgainUptoCard : Claim7 := { stood := { row := tarfmtAgainUptoRow, standIns := [], harness := (true, "3d4d38f45836603fae35f717aa67f59a4f31016c345cee883b0f5b026b76b0e1"), looks := false }, kinds := [], alts := [], laidByText := true, laidKinds := [.data, .pinned], laidTests := true, laidLooks := .later }
def TarfmtAgainUptoCardSaid : Prop := Claim7.holds Tryd.pinned (.plain (OpenSpec.upto tarfmtAgainSpec)) tarfmtAgainUptoCard

/-- THE SECOND FORM's CARD OF 'dunnagelaw12.TarfmtTells'. -/
def tarfmtTellsUptoCard : Claim7 := { stood := { row := tarfmtTellsUptoRow, standIns := [], harness := (true, "3d4d38f45836603fae35f717aa67f59a4f31016c345cee883b0f5b026b76b0e1"), looks := false }, kinds := [], alts := [], laidByText := true, laidKinds := [.data, .pinned], laidTests := true, laidLooks := .later }
def TarfmtTellsUptoCardSaid : Prop := Claim7.holds Tryd.pinned (.plain (OpenSpec.upto tarfmtTellsSpec)) tarfmtTellsUptoCard

/-- THE SECOND FORM's CARD OF 'dunnagelaw12.TarfmtCuts'. -/
def tarfmtCutsUptoCard : Claim7 := { stood := { row := tarfmtCutsUptoRow, standIns := [], harness := (true, "3d4d38f45836603fae35f717aa67f59a4f31016c345cee883b0f5b026b76b0e1"), looks := false }, kinds := [], alts := [], laidByText := true, laidKinds := [.data, .pinned], laidTests := true, laidLooks := .later }
def TarfmtCutsUptoCardSaid : Prop := Claim7.holds Tryd.pinned (.plain (OpenSpec.upto tarfmtCutsSpec)) tarfmtCutsUptoCard

/-- THE SECOND FORM's CARD OF 'dunnagelaw12.TarfmtJoins'. -/
def tarfmtJoinsUptoCard : Claim7 := { stood := { row := tarfmtJoinsUptoRow, standIns := [], harness := (true, "3d4d38f45836603fae35f717aa67f59a4f31016c345cee883b0f5b026b76b0e1"), looks := false }, kinds := [], alts := [], laidByText := true, laidKinds := [.data, .pinned], laidTests := true, laidLooks := .later }
def TarfmtJoinsUptoCardSaid : Prop := Claim7.holds Tryd.pinned (.plain (OpenSpec.upto tarfmtJoinsSpec)) tarfmtJoinsUptoCard

/-- THE SECOND FORM's CARD OF 'dunnagelaw12.TarfmtSums'. -/
def tarfmtSumsUptoCard : Claim7 := { stood := { row := tarfmtSumsUptoRow, standIns := [], harness := (true, "3d4d38f45836603fae35f717aa67f59a4f31016c345cee883b0f5b026b76b0e1"), looks := false }, kinds := [], alts := [], laidByText := true, laidKinds := [.data, .pinned], laidTests := true, laidLooks := .later }
def TarfmtSumsUptoCardSaid : Prop := Claim7.holds Tryd.pinned (.plain (OpenSpec.upto tarfmtSumsSpec)) tarfmtSumsUptoCard
end Rows
end Go.Proofs.YtikhdbdbdldbaaaDoor
