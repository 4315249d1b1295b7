/-
  No cell of these rows narrows 'for every input' (looked for: loops, veiled, ifaces, maps, wideKeys, modest, calm, conditions, laid).
  DERIVED. THE GIVEN ROWS OF THIS SEAT. 4 by the template 'for every input the law returns true; each argument reads behind the call as it read before'; 0 by the template 'total and deterministic' (their statements: YtlkieepfjhiflaaTotals.lean).
  GIVEN WITH THE SEED: the statements are not yours to turn. If you find one false, say at which input.
  Laid BY PROGRAM, IN A SANDBOX (cutbox-rows.mjs): the forced cells as the released guide's own fill.sh prints them over the translation 006cdd75fe409935… (all of the seat's roots in one cut). By AI agents, Wed Nov 11 2026. No macro, syntax, notation, axiom, sorry.
-/
import Derived.Test.YtlkieepfjhiflaaChecked
import GoSem.Claim
import GoSem.ClaimJoined
import GoSem.ClaimMapViews
import Derived.JoinedTies
import Derived.KernelRfl
namespace Go.Proofs.Ytlkieepfjhiflaa
/- THE CELL 'sum', in the pinned program and in every row, IS THE sha256 OF THE DUMP (.gsa) THAT YtlkieepfjhiflaaProg.lean LOADS. Nothing in Lean hashes anything: it is a label: what it is worth is what the hold of that sum in a sandbox is worth. -/
noncomputable def Try.pinned : Pinned := { name := "ytlkieepfjhiflaa", sum := "006cdd75fe40993585480387d6ecd7fa1f9250b9c9de467324f2fb196f1287df", checked := Try.checked }
namespace Rows
def none {H : Type} : Left H := { results := [], args := [] }

/-- 'dunnagetop.TopSums': WHATEVER THE INPUT: true; the input reads as it did. -/
def topSumsSpec : ChangeSpec := { name := "topSums", fn := fun _ => fun
  | [d1, d2, d3] => { results := [.lit (.bool true)], args := [d1, d2, d3] }
  | _ => none }
def topSumsRow : OpenClaim := { program := "ytlkieepfjhiflaa", sum := "006cdd75fe40993585480387d6ecd7fa1f9250b9c9de467324f2fb196f1287df", func := "dunnage/dunnagetop.TopSums", spec := "topSums", unfollowed := true, recurses := true, apart := false }
def TopSumsSaid : Prop := topSumsRow.holds Try.pinned (OpenSpec.ofChange topSumsSpec)

/-- ITS FALSE NEIGHBOUR: 'it returns false'. Refute it at one input. -/
def topSumsWrong : ChangeSpec := { name := "topSums", fn := fun _ => fun
  | [d1, d2, d3] => { results := [.lit (.bool false)], args := [d1, d2, d3] }
  | _ => none }
def TopSumsWrongFalsely : Prop := topSumsRow.holds Try.pinned (OpenSpec.ofChange topSumsWrong)

/-- 'dunnagetop.TopTorn': WHATEVER THE INPUT: true; the input reads as it did. -/
def topTornSpec : ChangeSpec := { name := "topTorn", fn := fun _ => fun
  | [d1, d2, d3] => { results := [.lit (.bool true)], args := [d1, d2, d3] }
  | _ => none }
def topTornRow : OpenClaim := { program := "ytlkieepfjhiflaa", sum := "006cdd75fe40993585480387d6ecd7fa1f9250b9c9de467324f2fb196f1287df", func := "dunnage/dunnagetop.TopTorn", spec := "topTorn", unfollowed := true, recurses := true, apart := false }
def TopTornSaid : Prop := topTornRow.holds Try.pinned (OpenSpec.ofChange topTornSpec)

/-- ITS FALSE NEIGHBOUR: 'it returns false'. Refute it at one input. -/
def topTornWrong : ChangeSpec := { name := "topTorn", fn := fun _ => fun
  | [d1, d2, d3] => { results := [.lit (.bool false)], args := [d1, d2, d3] }
  | _ => none }
def TopTornWrongFalsely : Prop := topTornRow.holds Try.pinned (OpenSpec.ofChange topTornWrong)

/-- 'dunnagetop.TopAgain': WHATEVER THE INPUT: true; the input reads as it did. -/
def topAgainSpec : ChangeSpec := { name := "topAgain", fn := fun _ => fun
  | [d1, d2, d3] => { results := [.lit (.bool true)], args := [d1, d2, d3] }
  | _ => none }
def topAgainRow : OpenClaim := { program := "ytlkieepfjhiflaa", sum := "006cdd75fe40993585480387d6ecd7fa1f9250b9c9de467324f2fb196f1287df", func := "dunnage/dunnagetop.TopAgain", spec := "topAgain", unfollowed := true, recurses := true, apart := false }
def TopAgainSaid : Prop := topAgainRow.holds Try.pinned (OpenSpec.ofChange topAgainSpec)

/-- ITS FALSE NEIGHBOUR: 'it returns false'. Refute it at one input. -/
def topAgainWrong : ChangeSpec := { name := "topAgain", fn := fun _ => fun
  | [d1, d2, d3] => { results := [.lit (.bool false)], args := [d1, d2, d3] }
  | _ => none }
def TopAgainWrongFalsely : Prop := topAgainRow.holds Try.pinned (OpenSpec.ofChange topAgainWrong)

/-- 'dunnagetop.TopPages': WHATEVER THE INPUT: true; the input reads as it did. -/
def topPagesSpec : ChangeSpec := { name := "topPages", fn := fun _ => fun
  | [d1, d2, d3] => { results := [.lit (.bool true)], args := [d1, d2, d3] }
  | _ => none }
def topPagesRow : OpenClaim := { program := "ytlkieepfjhiflaa", sum := "006cdd75fe40993585480387d6ecd7fa1f9250b9c9de467324f2fb196f1287df", func := "dunnage/dunnagetop.TopPages", spec := "topPages", unfollowed := true, recurses := true, apart := false }
def TopPagesSaid : Prop := topPagesRow.holds Try.pinned (OpenSpec.ofChange topPagesSpec)

/-- ITS FALSE NEIGHBOUR: 'it returns false'. Refute it at one input. -/
def topPagesWrong : ChangeSpec := { name := "topPages", fn := fun _ => fun
  | [d1, d2, d3] => { results := [.lit (.bool false)], args := [d1, d2, d3] }
  | _ => none }
def TopPagesWrongFalsely : Prop := topPagesRow.holds Try.pinned (OpenSpec.ofChange topPagesWrong)

/- THE SECOND FORM. 'bulk': how many values and letters a reading holds, each counted each time it is reached (what is shared counts as often as it is met; a slice's spare places count too). A statement '..UptoSaid' is the law's where the arguments, and the package variables that the reading takes, are together of bulk at most 1048576: NARROWER than '..Said'. Prove '..Said' where nothing that the law and all that it calls make is longer than what came in: it says more and counts as full. Else prove '..UptoSaid'. A law counts once. -/
mutual
def uptoBulk {H : Type} : DataW H → Nat
  | .lit (.string bytes) => bytes.length + 1
  | .lit _ => 1
  | .nil => 1
  | .ptr d => uptoBulk d + 1
  | .slice elems spare => uptoBulkAll elems + uptoBulkAll spare + 1
  | .agg parts => uptoBulkAll parts + 1
  | .iface _ d => uptoBulk d + 1
  | .map entries => uptoBulkEntries entries + 1
  | .held _ => 1
def uptoBulkAll {H : Type} : List (DataW H) → Nat
  | [] => 0
  | d :: r => uptoBulk d + uptoBulkAll r
def uptoBulkEntries {H : Type} : List (Lit × DataW H) → Nat
  | [] => 0
  | x :: r => uptoBulkEntry x + uptoBulkEntries r
def uptoBulkEntry {H : Type} : Lit × DataW H → Nat
  | (.string bytes, d) => bytes.length + uptoBulk d + 1
  | (_, d) => uptoBulk d + 1
 end
def uptoSmall : (H : Type) → List (DataW H) → Bool := fun _ ds => decide (uptoBulkAll ds ≤ 1048576)
def OpenSpec.upto (s : _root_.Go.ChangeSpec) : _root_.Go.OpenSpec := { _root_.Go.OpenSpec.ofChange s with cond := some uptoSmall }

/-- 'dunnagetop.TopSums', WHERE WHAT IT READS IS OF BULK AT MOST 1048576: true; the input reads as it did. -/
def topSumsUptoRow : OpenClaim := { program := "ytlkieepfjhiflaa", sum := "006cdd75fe40993585480387d6ecd7fa1f9250b9c9de467324f2fb196f1287df", func := "dunnage/dunnagetop.TopSums", spec := "topSums", unfollowed := true, recurses := true, apart := false, narrowed := true }
def TopSumsUptoSaid : Prop := topSumsUptoRow.holds Try.pinned (OpenSpec.upto topSumsSpec)

/-- 'dunnagetop.TopTorn', WHERE WHAT IT READS IS OF BULK AT MOST 1048576: true; the input reads as it did. -/
def topTornUptoRow : OpenClaim := { program := "ytlkieepfjhiflaa", sum := "006cdd75fe40993585480387d6ecd7fa1f9250b9c9de467324f2fb196f1287df", func := "dunnage/dunnagetop.TopTorn", spec := "topTorn", unfollowed := true, recurses := true, apart := false, narrowed := true }
def TopTornUptoSaid : Prop := topTornUptoRow.holds Try.pinned (OpenSpec.upto topTornSpec)

/-- 'dunnagetop.TopAgain', WHERE WHAT IT READS IS OF BULK AT MOST 1048576: true; the input reads as it did. -/
def topAgainUptoRow : OpenClaim := { program := "ytlkieepfjhiflaa", sum := "006cdd75fe40993585480387d6ecd7fa1f9250b9c9de467324f2fb196f1287df", func := "dunnage/dunnagetop.TopAgain", spec := "topAgain", unfollowed := true, recurses := true, apart := false, narrowed := true }
def TopAgainUptoSaid : Prop := topAgainUptoRow.holds Try.pinned (OpenSpec.upto topAgainSpec)

/-- 'dunnagetop.TopPages', WHERE WHAT IT READS IS OF BULK AT MOST 1048576: true; the input reads as it did. -/
def topPagesUptoRow : OpenClaim := { program := "ytlkieepfjhiflaa", sum := "006cdd75fe40993585480387d6ecd7fa1f9250b9c9de467324f2fb196f1287df", func := "dunnage/dunnagetop.TopPages", spec := "topPages", unfollowed := true, recurses := true, apart := false, narrowed := true }
def TopPagesUptoSaid : Prop := topPagesUptoRow.holds Try.pinned (OpenSpec.upto topPagesSpec)

end Rows
end Go.Proofs.Ytlkieepfjhiflaa
