/-
  NARROWER THAN 'FOR EVERY INPUT', by the rows' own cells (each row's printed sentence says how): TarfmtPrints: laid · TarfmtBack: laid · TarfmtAgain: laid · TarfmtTells: laid · TarfmtCuts: laid · TarfmtJoins: laid · TarfmtSums: laid.
  DERIVED. THE GIVEN ROWS OF THIS SEAT. 7 by the template 'for every input the law returns true; each argument reads behind the call as it read before'; 0 by the template 'total and deterministic' (their statements: YtikhdbdbdldbaaaDoorTotals.lean).
  GIVEN WITH THE SEED: the statements are not yours to turn. If you find one false, say at which input.
  Laid BY PROGRAM, IN A SANDBOX (cutbox-rows.mjs): the forced cells as the released guide's own fill.sh prints them over the translation 04a924027357d803… (all of the seat's roots in one cut). By AI agents, Wed Nov 11 2026. No macro, syntax, notation, axiom, sorry.
-/
import Derived.Test.YtikhdbdbdldbaaaDoorChecked
import GoSem.PinnedTables
import GoSem.Claim
import GoSem.ClaimJoined
import GoSem.ClaimMapViews
import Derived.JoinedTies
import Derived.KernelRfl
namespace Go.Proofs.YtikhdbdbdldbaaaDoor
/- THE CELL 'sum', in the pinned program and in every row, IS THE sha256 OF THE DUMP (.gsa) THAT YtikhdbdbdldbaaaDoorProg.lean LOADS. Nothing in Lean hashes anything: it is a label: what it is worth is what the hold of that sum in a sandbox is worth. -/
noncomputable def Tryd.pinned : Pinned := { name := "ytikhdbdbdldbaaadoor", sum := "04a924027357d803ebc7bfa184a44e7c919d5b886e9c95a4ec5689b311ad8845", checked := Tryd.checked }
namespace Rows
def none {H : Type} : Left H := { results := [], args := [] }

/- WHAT THE LISTED PACKAGE-LEVEL VARIABLES READ AS WHEN THE CALL BEGINS. Each datum BY PROGRAM (the guide's laid-datum.mjs) off the statement by which the dump's own 'gosem.cut.vars' lays the variable. In a bare row this is a premise. The card (YtikhdbdbdldbaaaDoorCards.lean) ties it to the program's text. -/
def laid_unicode_utf8_acceptRanges {H : Type} : DataW H := .agg [.agg [.lit (.int .u8 128), .lit (.int .u8 191)], .agg [.lit (.int .u8 160), .lit (.int .u8 191)], .agg [.lit (.int .u8 128), .lit (.int .u8 159)], .agg [.lit (.int .u8 144), .lit (.int .u8 191)], .agg [.lit (.int .u8 128), .lit (.int .u8 143)], .agg [.lit (.int .u8 0), .lit (.int .u8 0)], .agg [.lit (.int .u8 0), .lit (.int .u8 0)], .agg [.lit (.int .u8 0), .lit (.int .u8 0)], .agg [.lit (.int .u8 0), .lit (.int .u8 0)], .agg [.lit (.int .u8 0), .lit (.int .u8 0)], .agg [.lit (.int .u8 0), .lit (.int .u8 0)], .agg [.lit (.int .u8 0), .lit (.int .u8 0)], .agg [.lit (.int .u8 0), .lit (.int .u8 0)], .agg [.lit (.int .u8 0), .lit (.int .u8 0)], .agg [.lit (.int .u8 0), .lit (.int .u8 0)], .agg [.lit (.int .u8 0), .lit (.int .u8 0)]]
/-- One of Go's own tables, pinned by name: the form's constant. -/
def laid_unicode_utf8_first : DataW Unit := Go.Pinned.utf8First

/-- 'dunnagelaw12.TarfmtPrints': WHATEVER THE INPUT: true; the input reads as it did. -/
def tarfmtPrintsSpec : ChangeSpec := { name := "tarfmtPrints", fn := fun _ => fun
  | [d1, d2] => { results := [.lit (.bool true)], args := [d1, d2] }
  | _ => none }
def tarfmtPrintsRow : OpenClaim := { program := "ytikhdbdbdldbaaadoor", sum := "04a924027357d803ebc7bfa184a44e7c919d5b886e9c95a4ec5689b311ad8845", func := "dunnage/dunnagelaw12.TarfmtPrints", spec := "tarfmtPrints", inPlace := ["internal/bytealg.IndexByteString", "internal/bytealg.IndexString"], unfollowed := true, recurses := true, named := ["unicode/utf8.first", "unicode/utf8.acceptRanges", "internal/bytealg.MaxLen"], apart := false, laid := [("unicode/utf8.acceptRanges", laid_unicode_utf8_acceptRanges), ("unicode/utf8.first", laid_unicode_utf8_first)] }
def TarfmtPrintsSaid : Prop := tarfmtPrintsRow.holds Tryd.pinned (OpenSpec.ofChange tarfmtPrintsSpec)

/-- ITS FALSE NEIGHBOUR: 'it returns false'. Refute it at one input. -/
def tarfmtPrintsWrong : ChangeSpec := { name := "tarfmtPrints", fn := fun _ => fun
  | [d1, d2] => { results := [.lit (.bool false)], args := [d1, d2] }
  | _ => none }
def TarfmtPrintsWrongFalsely : Prop := tarfmtPrintsRow.holds Tryd.pinned (OpenSpec.ofChange tarfmtPrintsWrong)

/-- 'dunnagelaw12.TarfmtBack': WHATEVER THE INPUT: true; the input reads as it did. -/
def tarfmtBackSpec : ChangeSpec := { name := "tarfmtBack", fn := fun _ => fun
  | [d] => { results := [.lit (.bool true)], args := [d] }
  | _ => none }
def tarfmtBackRow : OpenClaim := { program := "ytikhdbdbdldbaaadoor", sum := "04a924027357d803ebc7bfa184a44e7c919d5b886e9c95a4ec5689b311ad8845", func := "dunnage/dunnagelaw12.TarfmtBack", spec := "tarfmtBack", inPlace := ["internal/bytealg.IndexByteString", "internal/bytealg.IndexString"], unfollowed := true, recurses := true, named := ["unicode/utf8.first", "unicode/utf8.acceptRanges", "internal/bytealg.MaxLen"], apart := false, laid := [("unicode/utf8.acceptRanges", laid_unicode_utf8_acceptRanges), ("unicode/utf8.first", laid_unicode_utf8_first)] }
def TarfmtBackSaid : Prop := tarfmtBackRow.holds Tryd.pinned (OpenSpec.ofChange tarfmtBackSpec)

/-- ITS FALSE NEIGHBOUR: 'it returns false'. Refute it at one input. -/
def tarfmtBackWrong : ChangeSpec := { name := "tarfmtBack", fn := fun _ => fun
  | [d] => { results := [.lit (.bool false)], args := [d] }
  | _ => none }
def TarfmtBackWrongFalsely : Prop := tarfmtBackRow.holds Tryd.pinned (OpenSpec.ofChange tarfmtBackWrong)

/-- 'dunnagelaw12.TarfmtAgain': WHATEVER THE INPUT: true; the input reads as it did. -/
def tarfmtAgainSpec : ChangeSpec := { name := "tarfmtAgain", fn := fun _ => fun
  | [d] => { results := [.lit (.bool true)], args := [d] }
  | _ => none }
def tarfmtAgainRow : OpenClaim := { program := "ytikhdbdbdldbaaadoor", sum := "04a924027357d803ebc7bfa184a44e7c919d5b886e9c95a4ec5689b311ad8845", func := "dunnage/dunnagelaw12.TarfmtAgain", spec := "tarfmtAgain", inPlace := ["internal/bytealg.IndexByteString", "internal/bytealg.IndexString"], unfollowed := true, recurses := true, named := ["unicode/utf8.first", "unicode/utf8.acceptRanges", "internal/bytealg.MaxLen"], apart := false, laid := [("unicode/utf8.acceptRanges", laid_unicode_utf8_acceptRanges), ("unicode/utf8.first", laid_unicode_utf8_first)] }
def TarfmtAgainSaid : Prop := tarfmtAgainRow.holds Tryd.pinned (OpenSpec.ofChange tarfmtAgainSpec)

/-- ITS FALSE NEIGHBOUR: 'it returns false'. Refute it at one input. -/
def tarfmtAgainWrong : ChangeSpec := { name := "tarfmtAgain", fn := fun _ => fun
  | [d] => { results := [.lit (.bool false)], args := [d] }
  | _ => none }
def TarfmtAgainWrongFalsely : Prop := tarfmtAgainRow.holds Tryd.pinned (OpenSpec.ofChange tarfmtAgainWrong)

/-- 'dunnagelaw12.TarfmtTells': WHATEVER THE INPUT: true; the input reads as it did. -/
def tarfmtTellsSpec : ChangeSpec := { name := "tarfmtTells", fn := fun _ => fun
  | [d1, d2, d3] => { results := [.lit (.bool true)], args := [d1, d2, d3] }
  | _ => none }
def tarfmtTellsRow : OpenClaim := { program := "ytikhdbdbdldbaaadoor", sum := "04a924027357d803ebc7bfa184a44e7c919d5b886e9c95a4ec5689b311ad8845", func := "dunnage/dunnagelaw12.TarfmtTells", spec := "tarfmtTells", inPlace := ["internal/bytealg.IndexByteString", "internal/bytealg.IndexString"], unfollowed := true, recurses := true, named := ["unicode/utf8.first", "unicode/utf8.acceptRanges", "internal/bytealg.MaxLen"], apart := false, laid := [("unicode/utf8.acceptRanges", laid_unicode_utf8_acceptRanges), ("unicode/utf8.first", laid_unicode_utf8_first)] }
def TarfmtTellsSaid : Prop := tarfmtTellsRow.holds Tryd.pinned (OpenSpec.ofChange tarfmtTellsSpec)

/-- ITS FALSE NEIGHBOUR: 'it returns false'. Refute it at one input. -/
def tarfmtTellsWrong : ChangeSpec := { name := "tarfmtTells", fn := fun _ => fun
  | [d1, d2, d3] => { results := [.lit (.bool false)], args := [d1, d2, d3] }
  | _ => none }
def TarfmtTellsWrongFalsely : Prop := tarfmtTellsRow.holds Tryd.pinned (OpenSpec.ofChange tarfmtTellsWrong)

/-- 'dunnagelaw12.TarfmtCuts': WHATEVER THE INPUT: true; the input reads as it did. -/
def tarfmtCutsSpec : ChangeSpec := { name := "tarfmtCuts", fn := fun _ => fun
  | [d1, d2] => { results := [.lit (.bool true)], args := [d1, d2] }
  | _ => none }
def tarfmtCutsRow : OpenClaim := { program := "ytikhdbdbdldbaaadoor", sum := "04a924027357d803ebc7bfa184a44e7c919d5b886e9c95a4ec5689b311ad8845", func := "dunnage/dunnagelaw12.TarfmtCuts", spec := "tarfmtCuts", inPlace := ["internal/bytealg.IndexByteString", "internal/bytealg.IndexString"], unfollowed := true, recurses := true, named := ["unicode/utf8.first", "unicode/utf8.acceptRanges", "internal/bytealg.MaxLen"], apart := false, laid := [("unicode/utf8.acceptRanges", laid_unicode_utf8_acceptRanges), ("unicode/utf8.first", laid_unicode_utf8_first)] }
def TarfmtCutsSaid : Prop := tarfmtCutsRow.holds Tryd.pinned (OpenSpec.ofChange tarfmtCutsSpec)

/-- ITS FALSE NEIGHBOUR: 'it returns false'. Refute it at one input. -/
def tarfmtCutsWrong : ChangeSpec := { name := "tarfmtCuts", fn := fun _ => fun
  | [d1, d2] => { results := [.lit (.bool false)], args := [d1, d2] }
  | _ => none }
def TarfmtCutsWrongFalsely : Prop := tarfmtCutsRow.holds Tryd.pinned (OpenSpec.ofChange tarfmtCutsWrong)

/-- 'dunnagelaw12.TarfmtJoins': WHATEVER THE INPUT: true; the input reads as it did. -/
def tarfmtJoinsSpec : ChangeSpec := { name := "tarfmtJoins", fn := fun _ => fun
  | [d1, d2] => { results := [.lit (.bool true)], args := [d1, d2] }
  | _ => none }
def tarfmtJoinsRow : OpenClaim := { program := "ytikhdbdbdldbaaadoor", sum := "04a924027357d803ebc7bfa184a44e7c919d5b886e9c95a4ec5689b311ad8845", func := "dunnage/dunnagelaw12.TarfmtJoins", spec := "tarfmtJoins", inPlace := ["internal/bytealg.IndexByteString", "internal/bytealg.IndexString"], unfollowed := true, recurses := true, named := ["unicode/utf8.first", "unicode/utf8.acceptRanges", "internal/bytealg.MaxLen"], apart := false, laid := [("unicode/utf8.acceptRanges", laid_unicode_utf8_acceptRanges), ("unicode/utf8.first", laid_unicode_utf8_first)] }
def TarfmtJoinsSaid : Prop := tarfmtJoinsRow.holds Tryd.pinned (OpenSpec.ofChange tarfmtJoinsSpec)

/-- ITS FALSE NEIGHBOUR: 'it returns false'. Refute it at one input. -/
def tarfmtJoinsWrong : ChangeSpec := { name := "tarfmtJoins", fn := fun _ => fun
  | [d1, d2] => { results := [.lit (.bool false)], args := [d1, d2] }
  | _ => none }
def TarfmtJoinsWrongFalsely : Prop := tarfmtJoinsRow.holds Tryd.pinned (OpenSpec.ofChange tarfmtJoinsWrong)

/-- 'dunnagelaw12.TarfmtSums': WHATEVER THE INPUT: true; the input reads as it did. -/
def tarfmtSumsSpec : ChangeSpec := { name := "tarfmtSums", fn := fun _ => fun
  | [d1, d2, d3] => { results := [.lit (.bool true)], args := [d1, d2, d3] }
  | _ => none }
def tarfmtSumsRow : OpenClaim := { program := "ytikhdbdbdldbaaadoor", sum := "04a924027357d803ebc7bfa184a44e7c919d5b886e9c95a4ec5689b311ad8845", func := "dunnage/dunnagelaw12.TarfmtSums", spec := "tarfmtSums", inPlace := ["internal/bytealg.IndexByteString", "internal/bytealg.IndexString"], unfollowed := true, recurses := true, named := ["unicode/utf8.first", "unicode/utf8.acceptRanges", "internal/bytealg.MaxLen"], apart := false, laid := [("unicode/utf8.acceptRanges", laid_unicode_utf8_acceptRanges), ("unicode/utf8.first", laid_unicode_utf8_first)] }
def TarfmtSumsSaid : Prop := tarfmtSumsRow.holds Tryd.pinned (OpenSpec.ofChange tarfmtSumsSpec)

/-- ITS FALSE NEIGHBOUR: 'it returns false'. Refute it at one input. -/
def tarfmtSumsWrong : ChangeSpec := { name := "tarfmtSums", fn := fun _ => fun
  | [d1, d2, d3] => { results := [.lit (.bool false)], args := [d1, d2, d3] }
  | _ => none }
def TarfmtSumsWrongFalsely : Prop := tarfmtSumsRow.holds Tryd.pinned (OpenSpec.ofChange tarfmtSumsWrong)

/- THE SECOND FORM. 'bulk': how many values and letters a reading holds, each counted each time it is reached (what is shared counts as often as it is met; a slice's spare places count too). A statement '..UptoSaid' is the law's where the arguments, and the package variables that the reading takes, are together of bulk at most 1048576: NARROWER than '..Said'. Prove '..Said' where nothing that the law and all that it calls make is longer than what came in: it says more and counts as full. Else prove '..UptoSaid'. A law counts once. -/
mutual
def uptoBulk {H : Type} : DataW H → Nat
  | .lit (.string bytes) => bytes.length + 1
  | .lit _ => 1
  | .nil => 1
  | .ptr d => uptoBulk d + 1
  | .slice elems spare => uptoBulkAll elems + uptoBulkAll spare + 1
  | .agg parts => uptoBulkAll parts + 1
  | .iface _ d => uptoBulk d + 1
  | .map entries => uptoBulkEntries entries + 1
  | .held _ => 1
def uptoBulkAll {H : Type} : List (DataW H) → Nat
  | [] => 0
  | d :: r => uptoBulk d + uptoBulkAll r
def uptoBulkEntries {H : Type} : List (Lit × DataW H) → Nat
  | [] => 0
  | x :: r => uptoBulkEntry x + uptoBulkEntries r
def uptoBulkEntry {H : Type} : Lit × DataW H → Nat
  | (.string bytes, d) => bytes.length + uptoBulk d + 1
  | (_, d) => uptoBulk d + 1
 end
def uptoSmall : (H : Type) → List (DataW H) → Bool := fun _ ds => decide (uptoBulkAll ds ≤ 1048576)
def OpenSpec.upto (s : _root_.Go.ChangeSpec) : _root_.Go.OpenSpec := { _root_.Go.OpenSpec.ofChange s with cond := some uptoSmall }

/-- 'dunnagelaw12.TarfmtPrints', WHERE WHAT IT READS IS OF BULK AT MOST 1048576: true; the input reads as it did. -/
def tarfmtPrintsUptoRow : OpenClaim := { program := "ytikhdbdbdldbaaadoor", sum := "04a924027357d803ebc7bfa184a44e7c919d5b886e9c95a4ec5689b311ad8845", func := "dunnage/dunnagelaw12.TarfmtPrints", spec := "tarfmtPrints", inPlace := ["internal/bytealg.IndexByteString", "internal/bytealg.IndexString"], unfollowed := true, recurses := true, named := ["unicode/utf8.first", "unicode/utf8.acceptRanges", "internal/bytealg.MaxLen"], apart := false, laid := [("unicode/utf8.acceptRanges", laid_unicode_utf8_acceptRanges), ("unicode/utf8.first", laid_unicode_utf8_first)], narrowed := true }
def TarfmtPrintsUptoSaid : Prop := tarfmtPrintsUptoRow.holds Tryd.pinned (OpenSpec.upto tarfmtPrintsSpec)

/-- 'dunnagelaw12.TarfmtBack', WHERE WHAT IT READS IS OF BULK AT MOST 1048576: true; the input reads as it did. -/
def tarfmtBackUptoRow : OpenClaim := { program := "ytikhdbdbdldbaaadoor", sum := "04a924027357d803ebc7bfa184a44e7c919d5b886e9c95a4ec5689b311ad8845", func := "dunnage/dunnagelaw12.TarfmtBack", spec := "tarfmtBack", inPlace := ["internal/bytealg.IndexByteString", "internal/bytealg.IndexString"], unfollowed := true, recurses := true, named := ["unicode/utf8.first", "unicode/utf8.acceptRanges", "internal/bytealg.MaxLen"], apart := false, laid := [("unicode/utf8.acceptRanges", laid_unicode_utf8_acceptRanges), ("unicode/utf8.first", laid_unicode_utf8_first)], narrowed := true }
def TarfmtBackUptoSaid : Prop := tarfmtBackUptoRow.holds Tryd.pinned (OpenSpec.upto tarfmtBackSpec)

/-- 'dunnagelaw12.TarfmtAgain', WHERE WHAT IT READS IS OF BULK AT MOST 1048576: true; the input reads as it did. -/
def tarfmtAgainUptoRow : OpenClaim := { program := "ytikhdbdbdldbaaadoor", sum := "04a924027357d803ebc7bfa184a44e7c919d5b886e9c95a4ec5689b311ad8845", func := "dunnage/dunnagelaw12.TarfmtAgain", spec := "tarfmtAgain", inPlace := ["internal/bytealg.IndexByteString", "internal/bytealg.IndexString"], unfollowed := true, recurses := true, named := ["unicode/utf8.first", "unicode/utf8.acceptRanges", "internal/bytealg.MaxLen"], apart := false, laid := [("unicode/utf8.acceptRanges", laid_unicode_utf8_acceptRanges), ("unicode/utf8.first", laid_unicode_utf8_first)], narrowed := true }
def TarfmtAgainUptoSaid : Prop := tarfmtAgainUptoRow.holds Tryd.pinned (OpenSpec.upto tarfmtAgainSpec)

/-- 'dunnagelaw12.TarfmtTells', WHERE WHAT IT READS IS OF BULK AT MOST 1048576: true; the input reads as it did. -/
def tarfmtTellsUptoRow : OpenClaim := { program := "ytikhdbdbdldbaaadoor", sum := "04a924027357d803ebc7bfa184a44e7c919d5b886e9c95a4ec5689b311ad8845", func := "dunnage/dunnagelaw12.TarfmtTells", spec := "tarfmtTells", inPlace := ["internal/bytealg.IndexByteString", "internal/bytealg.IndexString"], unfollowed := true, recurses := true, named := ["unicode/utf8.first", "unicode/utf8.acceptRanges", "internal/bytealg.MaxLen"], apart := false, laid := [("unicode/utf8.acceptRanges", laid_unicode_utf8_acceptRanges), ("unicode/utf8.first", laid_unicode_utf8_first)], narrowed := true }
def TarfmtTellsUptoSaid : Prop := tarfmtTellsUptoRow.holds Tryd.pinned (OpenSpec.upto tarfmtTellsSpec)

/-- 'dunnagelaw12.TarfmtCuts', WHERE WHAT IT READS IS OF BULK AT MOST 1048576: true; the input reads as it did. -/
def tarfmtCutsUptoRow : OpenClaim := { program := "ytikhdbdbdldbaaadoor", sum := "04a924027357d803ebc7bfa184a44e7c919d5b886e9c95a4ec5689b311ad8845", func := "dunnage/dunnagelaw12.TarfmtCuts", spec := "tarfmtCuts", inPlace := ["internal/bytealg.IndexByteString", "internal/bytealg.IndexString"], unfollowed := true, recurses := true, named := ["unicode/utf8.first", "unicode/utf8.acceptRanges", "internal/bytealg.MaxLen"], apart := false, laid := [("unicode/utf8.acceptRanges", laid_unicode_utf8_acceptRanges), ("unicode/utf8.first", laid_unicode_utf8_first)], narrowed := true }
def TarfmtCutsUptoSaid : Prop := tarfmtCutsUptoRow.holds Tryd.pinned (OpenSpec.upto tarfmtCutsSpec)

/-- 'dunnagelaw12.TarfmtJoins', WHERE WHAT IT READS IS OF BULK AT MOST 1048576: true; the input reads as it did. -/
def tarfmtJoinsUptoRow : OpenClaim := { program := "ytikhdbdbdldbaaadoor", sum := "04a924027357d803ebc7bfa184a44e7c919d5b886e9c95a4ec5689b311ad8845", func := "dunnage/dunnagelaw12.TarfmtJoins", spec := "tarfmtJoins", inPlace := ["internal/bytealg.IndexByteString", "internal/bytealg.IndexString"], unfollowed := true, recurses := true, named := ["unicode/utf8.first", "unicode/utf8.acceptRanges", "internal/bytealg.MaxLen"], apart := false, laid := [("unicode/utf8.acceptRanges", laid_unicode_utf8_acceptRanges), ("unicode/utf8.first", laid_unicode_utf8_first)], narrowed := true }
def TarfmtJoinsUptoSaid : Prop := tarfmtJoinsUptoRow.holds Tryd.pinned (OpenSpec.upto tarfmtJoinsSpec)

/-- 'dunnagelaw12.TarfmtSums', WHERE WHAT IT READS IS OF BULK AT MOST 1048576: true; the input reads as it did. -/
def tarfmtSumsUptoRow : OpenClaim := { program := "ytikhdbdbdldbaaadoor", sum := "04a924027357d803ebc7bfa184a44e7c919d5b886e9c95a4ec5689b311ad8845", func := "dunnage/dunnagelaw12.TarfmtSums", spec := "tarfmtSums", inPlace := ["internal/bytealg.IndexByteString", "internal/bytealg.IndexString"], unfollowed := true, recurses := true, named := ["unicode/utf8.first", "unicode/utf8.acceptRanges", "internal/bytealg.MaxLen"], apart := false, laid := [("unicode/utf8.acceptRanges", laid_unicode_utf8_acceptRanges), ("unicode/utf8.first", laid_unicode_utf8_first)], narrowed := true }
def TarfmtSumsUptoSaid : Prop := tarfmtSumsUptoRow.holds Tryd.pinned (OpenSpec.upto tarfmtSumsSpec)

end Rows
end Go.Proofs.YtikhdbdbdldbaaaDoor
