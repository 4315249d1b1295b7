/- What live prints and parses, reckoned. No program, no condition. -/
import Derived.Test.YtikhdbdbdldbaaaDoorParLaw
import Derived.RowKit
namespace Go.Proofs.YtikhdbdbdldbaaaDoor
open Go.RowKit
def e0L : EntD := ⟨[97], 1, 420, [], [104, 105]⟩
def tar0 : List UInt8 := bodyL e0L ++ zer 1024
theorem print_none : printL [] = (zer 1024, 0) := by kernel_rfl
theorem print_e0 : printL [e0L] = (tar0, 0) := by kernel_rfl
theorem tar0_len : tar0.length = 2048 := by kernel_rfl
theorem tar0_at : tar0[0]? = some 97 := by kernel_rfl
theorem parse_tar0 : parseL tar0 = ([e0L], 0, 0) := by kernel_rfl
end Go.Proofs.YtikhdbdbdldbaaaDoor
