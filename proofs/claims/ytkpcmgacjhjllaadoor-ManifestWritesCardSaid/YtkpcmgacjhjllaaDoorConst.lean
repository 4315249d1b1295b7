/- The contract of the reference's constants. -/
import Derived.Test.YtkpcmgacjhjllaaDoorSumRefLaw
import Derived.Great.BuildSlice
namespace Go.Proofs.YtkpcmgacjhjllaaDoor
open Go.RowKit

set_option maxRecDepth 100000 in
set_option maxHeartbeats 2000000 in
theorem const_any (w : World) :
    Calls Tryd.prog 29 #[] w fun e w' => e = .returned (.slice (some ⟨w.heap.size, 0, none⟩) 64 64) ∧ w' = w.alloc (.cells (rowF kOf 64) 56) := by
  have hi32 : ∃ i, Tryd.prog.info? 56 = some i ∧ i.zero = some (.int .u32 0) ∧ i.size = 1 := by
    have h : (Tryd.prog.info? 56).map (fun i => (i.zero, i.size)) = some (some (.int .u32 0), 1) := by kernel_rfl
    obtain ⟨i, h1, h2⟩ := Option.map_eq_some_iff.1 h
    simp only [Prod.mk.injEq] at h2
    exact ⟨i, h1, h2.1, h2.2⟩
  obtain ⟨i0, hi, hz, hs⟩ := hi32
  go_enter Tryd.func29, Tryd.ntmps29
  go_wp2_with (refine wpList_buildSlice rfl _ 56 64 _ rfl (rowF kOf 64) i0 (.int .u32 0) Tryd.underlying57 hi hz (by rw [hs]; decide) (by rw [hs]; decide) ?hf ?_)
  case hf => kernel_rfl
  go_ret
  exact ⟨rfl, rfl⟩
end Go.Proofs.YtkpcmgacjhjllaaDoor
