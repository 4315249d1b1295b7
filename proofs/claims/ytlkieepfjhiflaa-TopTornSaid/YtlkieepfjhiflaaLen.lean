/- Contracts of a hasher's Len. -/
import Derived.Test.YtlkieepfjhiflaaSum
namespace Go.Proofs.Ytlkieepfjhiflaa
open Go.RowKit

set_option maxHeartbeats 1000000 in
theorem len_any (w : World) (b : Nat) (all : List UInt8) (hh : IsH w b all) :
    Calls Try.prog 19 #[.pointer (some ⟨b, 0, none⟩)] w fun e w' => e = .returned (.int .i64 all.length) ∧ w = w' := by
  obtain ⟨rest, hb, hrest⟩ := hh
  have k9 : w.cell? ⟨b, 9, none⟩ = some (.int .i64 all.length) := (cell_of_row w b 9 _ _ _ hb).trans rfl
  clear hb hrest
  go_enter Try.func19, Try.ntmps19
  go_wp2
  go_ret
  exact ⟨rfl, rfl⟩
set_option maxHeartbeats 1000000 in
theorem len_nil (w : World) :
    Calls Try.prog 19 #[.pointer none] w fun e w' => e = .returned (.int .i64 0) ∧ w = w' := by
  go_enter Try.func19, Try.ntmps19
  go_wp2
  go_ret
  exact ⟨rfl, rfl⟩

end Go.Proofs.Ytlkieepfjhiflaa
