/- The byte type's row of the program's table. -/
import Derived.Test.YtlkieepfjhiflaaBase
namespace Go.Proofs.Ytlkieepfjhiflaa
open Go.RowKit

/-- The byte type's row of the program's table. -/
theorem info_u8 : (Try.prog.info? 5).map (fun i => (i.zero, i.size, i.bytes)) = some (some (.int .u8 0), 1, 1) := by kernel_rfl

end Go.Proofs.Ytlkieepfjhiflaa
