/-
  DERIVED. GIVEN WITH THE SEED: THE CARDS: each row of YtkpcmgacjhjllaaDoorRows.lean that lists a variable, with what it lists TIED to the program's text (the seventh form; the later family's looks); each row that meets fmt, with fmt's text TOLD by the authors' own Lean function (tested against real Go, not proved from fmt's source: count such statements apart). THE CARD IS WHAT COUNTS. Prove the row's statement (the work); the ties are given (YtkpcmgacjhjllaaDoorTie.lean); close each card by the builder's one call (the guide's Derived/Test/ToyasCard.lean, 'card_holds'). Laid BY PROGRAM, IN A SANDBOX (cutbox-door.mjs). By AI agents, Wed Nov 11 2026. No macro, syntax, notation, axiom, sorry.
-/
import Derived.Test.YtkpcmgacjhjllaaDoorRows
import GoSem.ClaimSeven
namespace Go.Proofs.YtkpcmgacjhjllaaDoor
namespace Rows

/-- THE TIED CARD OF 'dunnagelaw11.ManifestApart'. -/
def manifestApartCard : Claim7 := { stood := { row := manifestApartRow, standIns := [], harness := (true, "d2949311651e8826a37f3fb41e401ef1cc0c68edaf9160acb57bc65f33df687f"), looks := false }, kinds := [], alts := [], laidByText := true, laidKinds := [.data, .pinned], laidTests := true, laidLooks := .later }
def ManifestApartCardSaid : Prop := Claim7.holds Tryd.pinned (.plain (OpenSpec.ofChange manifestApartSpec)) manifestApartCard

/-- THE TIED CARD OF 'dunnagelaw11.ManifestUses'. -/
def manifestUsesCard : Claim7 := { stood := { row := manifestUsesRow, standIns := [], harness := (true, "d2949311651e8826a37f3fb41e401ef1cc0c68edaf9160acb57bc65f33df687f"), looks := false }, kinds := [], alts := [], laidByText := true, laidKinds := [.data, .pinned], laidTests := true, laidLooks := .later }
def ManifestUsesCardSaid : Prop := Claim7.holds Tryd.pinned (.plain (OpenSpec.ofChange manifestUsesSpec)) manifestUsesCard

/-- THE TIED CARD OF 'dunnagelaw11.ManifestReads'. -/
def manifestReadsCard : Claim7 := { stood := { row := manifestReadsRow, standIns := [], harness := (true, "d2949311651e8826a37f3fb41e401ef1cc0c68edaf9160acb57bc65f33df687f"), looks := false }, kinds := [], alts := [], laidByText := true, laidKinds := [.data, .pinned], laidTests := true, laidLooks := .later }
def ManifestReadsCardSaid : Prop := Claim7.holds Tryd.pinned (.plain (OpenSpec.ofChange manifestReadsSpec)) manifestReadsCard

/-- THE TIED CARD OF 'dunnagelaw11.ManifestBack'. -/
def manifestBackCard : Claim7 := { stood := { row := manifestBackRow, standIns := [], harness := (true, "d2949311651e8826a37f3fb41e401ef1cc0c68edaf9160acb57bc65f33df687f"), looks := false }, kinds := [], alts := [], laidByText := true, laidKinds := [.data, .pinned], laidTests := true, laidLooks := .later }
def ManifestBackCardSaid : Prop := Claim7.holds Tryd.pinned (.plain (OpenSpec.ofChange manifestBackSpec)) manifestBackCard

/-- THE TIED CARD OF 'dunnagelaw11.ManifestWhole'. -/
def manifestWholeCard : Claim7 := { stood := { row := manifestWholeRow, standIns := [], harness := (true, "d2949311651e8826a37f3fb41e401ef1cc0c68edaf9160acb57bc65f33df687f"), looks := false }, kinds := [], alts := [], laidByText := true, laidKinds := [.data, .pinned], laidTests := true, laidLooks := .later }
def ManifestWholeCardSaid : Prop := Claim7.holds Tryd.pinned (.plain (OpenSpec.ofChange manifestWholeSpec)) manifestWholeCard

/-- THE TIED CARD OF 'dunnagelaw11.ManifestWrites'. -/
def manifestWritesCard : Claim7 := { stood := { row := manifestWritesRow, standIns := [], harness := (true, "d2949311651e8826a37f3fb41e401ef1cc0c68edaf9160acb57bc65f33df687f"), looks := false }, kinds := [], alts := [], laidByText := true, laidKinds := [.data, .pinned], laidTests := true, laidLooks := .later }
def ManifestWritesCardSaid : Prop := Claim7.holds Tryd.pinned (.plain (OpenSpec.ofChange manifestWritesSpec)) manifestWritesCard

/-- THE SECOND FORM's CARD OF 'dunnagelaw11.ManifestApart'. -/
def manifestApartUptoCard : Claim7 := { stood := { row := manifestApartUptoRow, standIns := [], harness := (true, "d2949311651e8826a37f3fb41e401ef1cc0c68edaf9160acb57bc65f33df687f"), looks := false }, kinds := [], alts := [], laidByText := true, laidKinds := [.data, .pinned], laidTests := true, laidLooks := .later }
def ManifestApartUptoCardSaid : Prop := Claim7.holds Tryd.pinned (.plain (OpenSpec.upto manifestApartSpec)) manifestApartUptoCard

/-- THE SECOND FORM's CARD OF 'dunnagelaw11.ManifestUses'. -/
def manifestUsesUptoCard : Claim7 := { stood := { row := manifestUsesUptoRow, standIns := [], harness := (true, "d2949311651e8826a37f3fb41e401ef1cc0c68edaf9160acb57bc65f33df687f"), looks := false }, kinds := [], alts := [], laidByText := true, laidKinds := [.data, .pinned], laidTests := true, laidLooks := .later }
def ManifestUsesUptoCardSaid : Prop := Claim7.holds Tryd.pinned (.plain (OpenSpec.upto manifestUsesSpec)) manifestUsesUptoCard

/-- THE SECOND FORM's CARD OF 'dunnagelaw11.ManifestReads'. -/
def manifestReadsUptoCard : Claim7 := { stood := { row := manifestReadsUptoRow, standIns := [], harness := (true, "d2949311651e8826a37f3fb41e401ef1cc0c68edaf9160acb57bc65f33df687f"), looks := false }, kinds := [], alts := [], laidByText := true, laidKinds := [.data, .pinned], laidTests := true, laidLooks := .later }
def ManifestReadsUptoCardSaid : Prop := Claim7.holds Tryd.pinned (.plain (OpenSpec.upto manifestReadsSpec)) manifestReadsUptoCard

/-- THE SECOND FORM's CARD OF 'dunnagelaw11.ManifestBack'. -/
def manifestBackUptoCard : Claim7 := { stood := { row := manifestBackUptoRow, standIns := [], harness := (true, "d2949311651e8826a37f3fb41e401ef1cc0c68edaf9160acb57bc65f33df687f"), looks := false }, kinds := [], alts := [], laidByText := true, laidKinds := [.data, .pinned], laidTests := true, laidLooks := .later }
def ManifestBackUptoCardSaid : Prop := Claim7.holds Tryd.pinned (.plain (OpenSpec.upto manifestBackSpec)) manifestBackUptoCard

/-- THE SECOND FORM's CARD OF 'dunnagelaw11.ManifestWhole'. -/
def manifestWholeUptoCard : Claim7 := { stood := { row := manifestWholeUptoRow, standIns := [], harness := (true, "d2949311651e8826a37f3fb41e401ef1cc0c68edaf9160acb57bc65f33df687f"), looks := false }, kinds := [], alts := [], laidByText := true, laidKinds := [.data, .pinned], laidTests := true, laidLooks := .later }
def ManifestWholeUptoCardSaid : Prop := Claim7.holds Tryd.pinned (.plain (OpenSpec.upto manifestWholeSpec)) manifestWholeUptoCard

/-- THE SECOND FORM's CARD OF 'dunnagelaw11.ManifestWrites'. -/
def manifestWritesUptoCard : Claim7 := { stood := { row := manifestWritesUptoRow, standIns := [], harness := (true, "d2949311651e8826a37f3fb41e401ef1cc0c68edaf9160acb57bc65f33df687f"), looks := false }, kinds := [], alts := [], laidByText := true, laidKinds := [.data, .pinned], laidTests := true, laidLooks := .later }
def ManifestWritesUptoCardSaid : Prop := Claim7.holds Tryd.pinned (.plain (OpenSpec.upto manifestWritesSpec)) manifestWritesUptoCard
end Rows
end Go.Proofs.YtkpcmgacjhjllaaDoor
